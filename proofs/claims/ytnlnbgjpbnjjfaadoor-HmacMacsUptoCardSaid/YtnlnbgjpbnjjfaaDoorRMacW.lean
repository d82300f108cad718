/-
  WALKS: the reference's keyed digest (affidavitref07.Sum).
-/
import Derived.Test.YtnlnbgjpbnjjfaaDoorExpandW
import Derived.Test.YtnlnbgjpbnjjfaaDoorRefBW
set_option linter.unusedSimpArgs false
namespace Go.Proofs.YtnlnbgjpbnjjfaaDoor
open Go Go.RowKit Go.Sha Go.Aff Go.Mac

/-- Two rows of the call's own side by side. -/
structure TwoR (w wr : World) (A : Option Addr) (n c : Nat) (xs : List Value) (B : Option Addr) (m d : Nat) (ys : List Value) : Prop where
  one : Mine w wr 5 A n c xs
  two : Mine w wr 5 B m d ys
  apart : ∀ g, (Value.slice A n c).ownBlock = some g → (Value.slice B m d).ownBlock ≠ some g
theorem TwoR.swap {w wr : World} {A B : Option Addr} {n c m d : Nat} {xs ys : List Value} (h : TwoR w wr A n c xs B m d ys) : TwoR w wr B m d ys A n c xs := ⟨h.two, h.one, fun g h1 h2 => h.apart g h2 h1⟩
theorem TwoR.keep {w wr w' : World} {A B : Option Addr} {n c m d : Nat} {xs ys : List Value} (h : TwoR w wr A n c xs B m d ys) (hk : Keeps (fun _ => False) wr w') : TwoR w w' A n c xs B m d ys := ⟨h.one.keep hk, h.two.keep hk, h.apart⟩
/-- Behind an append to the first one. -/
theorem TwoR.app {w wr w' : World} {A B A' : Option Addr} {n c m d n' c' : Nat} {xs ys zs : List Value} {o : Obj} (h : TwoR w wr A n c xs B m d ys) (hown : w'.ownsRow 0 5 1 (.slice A' n' c') n' zs) (hg : (wr.alloc o).grownBy w' (Value.slice A n c).ownBlock)
    (hb : (Value.slice A' n' c').ownBlock = (Value.slice A n c).ownBlock ∨ (Value.slice A' n' c').ownBlock = some (wr.heap.size + 1)) : TwoR w w' A' n' c' zs B m d ys := by
  have h1 := h.one.app hown hg hb
  have hk := Keeps.of_grown hg
  have h2 := (h.two.keep ((Keeps.refl _ wr).alloc o)).1
  refine ⟨h1, ⟨hk.own h2 (fun g hgb hf => h.apart g hf hgb), h1.2.1, h.two.2.2⟩, fun g hga hgb => ?_⟩
  rcases hb with e | e
  · exact h.apart g (e ▸ hga) hgb
  · rw [e] at hga
    injection hga with hga
    have := (h.two.1.lt g hgb).2
    omega
theorem TwoR.app0 {w wr w' : World} {A B A' : Option Addr} {n c m d n' c' : Nat} {xs ys zs : List Value} (h : TwoR w wr A n c xs B m d ys) (hown : w'.ownsRow 0 5 1 (.slice A' n' c') n' zs) (hg : wr.grownBy w' (Value.slice A n c).ownBlock)
    (hb : (Value.slice A' n' c').ownBlock = (Value.slice A n c).ownBlock ∨ (Value.slice A' n' c').ownBlock = some wr.heap.size) : TwoR w w' A' n' c' zs B m d ys := by
  have h1 := h.one.app0 hown hg hb
  have hk := Keeps.of_grown hg
  refine ⟨h1, ⟨hk.own h.two.1 (fun g hgb hf => h.apart g hf hgb), h1.2.1, h.two.2.2⟩, fun g hga hgb => ?_⟩
  rcases hb with e | e
  · exact h.apart g (e ▸ hga) hgb
  · rw [e] at hga
    injection hga with hga
    have := (h.two.1.lt g hgb).2
    omega
theorem keyB_at (key : List Int) (h : key.length ≤ 64) (t : Nat) : (keyB key).getD t 0 = key.getD t 0 := by
  unfold keyB keyIn
  rw [if_pos h]
  by_cases ht : t < key.length
  · simp [List.getD_eq_getElem?_getD, List.getElem?_append_left ht]
  · simp only [List.getD_eq_getElem?_getD]
    rw [List.getElem?_append_right (by omega), List.getElem?_eq_none (l := key) (by omega)]
    simp only [List.getElem?_replicate]
    split <;> rfl
theorem xorB_take (K : List Int) (x : Int) (t : Nat) (h : t < K.length) : (xorB K x).take t ++ [bits .xor .u8 (K.getD t 0) x] = (xorB K x).take (t + 1) := by
  have hl := xorB_length K x
  rw [List.take_succ_eq_append_getElem (by omega)]
  congr 1
  simp [xorB, h]

set_option maxHeartbeats 2000000 in
set_option maxRecDepth 100000 in
theorem rmac_short (w : World) (A B : Option Addr) (n c m d : Nat) (key msg : List Int) (hn : key.length = n) (hx : Rd w A n (vb key)) (bx : IsBytes key) (h64 : n ≤ 64)
    (hn' : msg.length = m) (hy : Rd w B m (vb msg)) (by' : IsBytes msg) (hm' : m ≤ 140737488353280) :
    Calls Tryd.prog 30 #[.slice A n c, .slice B m d] w fun e w' => e = .returned (.agg (vb (macF key msg)).toArray) ∧ Keeps (fun _ => False) w w' := by
  have hle : ¬ (64 < (n : Int)) := by omega
  have HX := Lib.hid hx
  have HY := Lib.hid hy
  have HN := Lib.hid hn
  have HN' := Lib.hid hn'
  have HBX := Lib.hid bx
  have HBY := Lib.hid by'
  have HZ := Lib.hid (Blk.new w 40 (List.replicate 32 (Value.int .u8 0)))
  have HK0 : Hid (Keeps (fun _ => False) w (w.alloc (.cells (List.replicate 32 (Value.int .u8 0)).toArray 40))) := Lib.hid ((Keeps.refl _ w).alloc _)
  clear hx hy hn hn' bx by'
  go_enter Tryd.func30, Tryd.ntmps30
  go_wp2
  go_loopw [6, 7, 8] (fun I O i wr => ∃ (t : Nat) (Ai : Option Addr) (ci : Nat) (Ao : Option Addr) (co : Nat), t ≤ 64 ∧ i = .int .i64 t ∧ I = .slice Ai t ci ∧ O = .slice Ao t co ∧ TwoR (w.alloc (.cells (List.replicate 32 (Value.int .u8 0)).toArray 40)) wr Ai t ci (vb ((inB key).take t)) Ao t co (vb ((outB key).take t))) (fun _ _ i _ => 64 - (intOf i).toNat)
  case atStart => exact ⟨0, none, 0, none, 0, by omega, rfl, rfl, rfl, ⟨⟨World.ownsRow_nil _ _ _ _, Keeps.refl _ _, fun g h => by cases h⟩, ⟨World.ownsRow_nil _ _ _ _, Keeps.refl _ _, fun g h => by cases h⟩, fun g h => by cases h⟩⟩
  case round =>
    obtain ⟨t, Ai, ci, Ao, co, ht, rfl, rfl, rfl, hr⟩ := hrel
    have HR := Lib.hid hr
    clear hr
    by_cases hlt : t < 64
    · have hlt' : (t : Int) < 64 := by omega
      by_cases htn : t < n
      · have htn' : (t : Int) < (n : Int) := by omega
        obtain ⟨g, o, e, hcell⟩ := (HX.out.keep (HK0.out.trans HR.out.one.2.1 (fun _ _ h => h)) (no_out _ _)).2 (by omega)
        subst e
        have hc0 := hcell t htn
        obtain ⟨k, hk'⟩ : ∃ k, k = key.getD t 0 := ⟨_, rfl⟩
        have hk : (keyB key).getD t 0 = k := by rw [keyB_at key (by rw [HN.out]; exact h64), hk']
        have hb : 0 ≤ k ∧ k < 256 := by
          rw [hk', List.getD_eq_getElem?_getD, List.getElem?_eq_getElem (by rw [HN.out]; exact htn)]
          exact HBX.out _ (List.getElem_mem _)
        have hv : (vb key)[t]? = some (.int .u8 k) := by
          unfold vb
          rw [List.getElem?_map, List.getElem?_eq_getElem (by rw [HN.out]; exact htn), hk', List.getD_eq_getElem?_getD, List.getElem?_eq_getElem (by rw [HN.out]; exact htn)]
          rfl
        rw [hv] at hc0
        obtain ⟨hb1, hb2⟩ := hb
        clear hv hk' hcell
        obtain ⟨y1, hy1⟩ : ∃ y1, y1 = bits .xor .u8 k 0x36 := ⟨_, rfl⟩
        obtain ⟨y2, hy2⟩ : ∃ y2, y2 = bits .xor .u8 k 0x5c := ⟨_, rfl⟩
        have g1 : vb ((inB key).take t) ++ [.int .u8 y1] = vb ((inB key).take (t + 1)) := by
          have h := xorB_take (keyB key) 0x36 t (by rw [keyB_length]; omega)
          rw [hk] at h
          unfold inB
          rw [← h, hy1]
          simp [vb]
        have g2 : vb ((outB key).take t) ++ [.int .u8 y2] = vb ((outB key).take (t + 1)) := by
          have h := xorB_take (keyB key) 0x5c t (by rw [keyB_length]; omega)
          rw [hk] at h
          unfold outB
          rw [← h, hy2]
          simp [vb]
        have HST1 : Hid (∀ A5 c5 w5, w5.ownsRow 0 5 1 (.slice A5 (t + 1) c5) (t + 1) (vb ((inB key).take t) ++ [.int .u8 y1]) → (wr.alloc (.cells #[.int .u8 y1] 5)).grownBy w5 (Value.slice Ai t ci).ownBlock → ((Value.slice A5 (t + 1) c5).ownBlock = (Value.slice Ai t ci).ownBlock ∨ (Value.slice A5 (t + 1) c5).ownBlock = some (wr.heap.size + 1)) → TwoR (w.alloc (.cells (List.replicate 32 (Value.int .u8 0)).toArray 40)) w5 A5 (t + 1) c5 (vb ((inB key).take (t + 1))) Ao t co (vb ((outB key).take t))) := Lib.hid fun A5 c5 w5 h1 h2 h3 => by
          rw [g1] at h1
          exact HR.out.app h1 h2 h3
        have HST2 : Hid (∀ A5 c5 w5 A6 c6 w6, TwoR (w.alloc (.cells (List.replicate 32 (Value.int .u8 0)).toArray 40)) w5 A5 (t + 1) c5 (vb ((inB key).take (t + 1))) Ao t co (vb ((outB key).take t)) → w6.ownsRow 0 5 1 (.slice A6 (t + 1) c6) (t + 1) (vb ((outB key).take t) ++ [.int .u8 y2]) → (w5.alloc (.cells #[.int .u8 y2] 5)).grownBy w6 (Value.slice Ao t co).ownBlock → ((Value.slice A6 (t + 1) c6).ownBlock = (Value.slice Ao t co).ownBlock ∨ (Value.slice A6 (t + 1) c6).ownBlock = some (w5.heap.size + 1)) → TwoR (w.alloc (.cells (List.replicate 32 (Value.int .u8 0)).toArray 40)) w6 A5 (t + 1) c5 (vb ((inB key).take (t + 1))) A6 (t + 1) c6 (vb ((outB key).take (t + 1)))) := Lib.hid fun A5 c5 w5 A6 c6 w6 h0 h1 h2 h3 => by
          rw [g2] at h1
          exact (h0.swap.app h1 h2 h3).swap
        have HO1 : Hid ((wr.alloc (.cells #[.int .u8 y1] 5)).ownsRow 0 5 1 (.slice Ai t ci) t (vb ((inB key).take t))) := Lib.hid (HR.out.one.keep ((Keeps.refl _ wr).alloc _)).1
        have HD1 : Hid (Rd (wr.alloc (.cells #[.int .u8 y1] 5)) (some ⟨wr.heap.size, 0, none⟩) 1 [.int .u8 y1]) := Lib.hid (Rd.of_blk (Blk.new wr 5 [.int .u8 y1]) rfl)
        have q1 := hy1.symm
        have q2 := hy2.symm
        clear g1 g2 hk hy1 hy2
        go_wp2_with (first
          | (at_builtin; refine wpList_append_rd _ rfl (.tmp 31) (.tmp 34) 22 rfl 5 (.int .u8 0) 1 Tryd.underlying22 info5 rfl (.slice Ai t ci) t _ rfl HO1.out _ 1 1 _ rfl HD1.out (by intro u hu; rw [List.mem_singleton.1 hu]; rfl) (by unfold maxLen; omega) (by omega) ?_; intro A5 c5 w5 hown hg hb; have HR5 := Lib.hid (HST1.out A5 c5 w5 hown hg (by simpa only [World.size_alloc] using hb)); have HO2 := Lib.hid ((HR5.out.two.keep ((Keeps.refl _ w5).alloc (.cells #[.int .u8 y2] 5))).1); have HD2 := Lib.hid (Rd.of_blk (Blk.new w5 5 [.int .u8 y2]) (n := 1) rfl); clear hown hg hb)
          | (at_builtin; refine wpList_append_rd _ rfl (.tmp 36) (.tmp 39) 22 rfl 5 (.int .u8 0) 1 Tryd.underlying22 info5 rfl (.slice Ao t co) t _ rfl HO2.out _ 1 1 _ rfl HD2.out (by intro u hu; rw [List.mem_singleton.1 hu]; rfl) (by unfold maxLen; omega) (by omega) ?_; intro A6 c6 w6 hown hg hb; have HR6 := Lib.hid (HST2.out _ _ _ A6 c6 w6 HR5.out hown hg (by simpa only [World.size_alloc] using hb)); clear hown hg hb))
        go_roundw
        case rel => exact ⟨t + 1, A5, c5, A6, c6, by omega, by go_num, rfl, rfl, HR6.out⟩
        case measure => simp [intOf]; omega
      · have htn' : ¬ ((t : Int) < (n : Int)) := by omega
        have hk : (keyB key).getD t 0 = 0 := by
          rw [keyB_at key (by rw [HN.out]; exact h64), List.getD_eq_getElem?_getD, List.getElem?_eq_none (by rw [HN.out]; omega)]
          rfl
        obtain ⟨y1, hy1⟩ : ∃ y1, y1 = bits .xor .u8 0 0x36 := ⟨_, rfl⟩
        obtain ⟨y2, hy2⟩ : ∃ y2, y2 = bits .xor .u8 0 0x5c := ⟨_, rfl⟩
        have g1 : vb ((inB key).take t) ++ [.int .u8 y1] = vb ((inB key).take (t + 1)) := by
          have h := xorB_take (keyB key) 0x36 t (by rw [keyB_length]; omega)
          rw [hk] at h
          unfold inB
          rw [← h, hy1]
          simp [vb]
        have g2 : vb ((outB key).take t) ++ [.int .u8 y2] = vb ((outB key).take (t + 1)) := by
          have h := xorB_take (keyB key) 0x5c t (by rw [keyB_length]; omega)
          rw [hk] at h
          unfold outB
          rw [← h, hy2]
          simp [vb]
        have HST1 : Hid (∀ A5 c5 w5, w5.ownsRow 0 5 1 (.slice A5 (t + 1) c5) (t + 1) (vb ((inB key).take t) ++ [.int .u8 y1]) → (wr.alloc (.cells #[.int .u8 y1] 5)).grownBy w5 (Value.slice Ai t ci).ownBlock → ((Value.slice A5 (t + 1) c5).ownBlock = (Value.slice Ai t ci).ownBlock ∨ (Value.slice A5 (t + 1) c5).ownBlock = some (wr.heap.size + 1)) → TwoR (w.alloc (.cells (List.replicate 32 (Value.int .u8 0)).toArray 40)) w5 A5 (t + 1) c5 (vb ((inB key).take (t + 1))) Ao t co (vb ((outB key).take t))) := Lib.hid fun A5 c5 w5 h1 h2 h3 => by
          rw [g1] at h1
          exact HR.out.app h1 h2 h3
        have HST2 : Hid (∀ A5 c5 w5 A6 c6 w6, TwoR (w.alloc (.cells (List.replicate 32 (Value.int .u8 0)).toArray 40)) w5 A5 (t + 1) c5 (vb ((inB key).take (t + 1))) Ao t co (vb ((outB key).take t)) → w6.ownsRow 0 5 1 (.slice A6 (t + 1) c6) (t + 1) (vb ((outB key).take t) ++ [.int .u8 y2]) → (w5.alloc (.cells #[.int .u8 y2] 5)).grownBy w6 (Value.slice Ao t co).ownBlock → ((Value.slice A6 (t + 1) c6).ownBlock = (Value.slice Ao t co).ownBlock ∨ (Value.slice A6 (t + 1) c6).ownBlock = some (w5.heap.size + 1)) → TwoR (w.alloc (.cells (List.replicate 32 (Value.int .u8 0)).toArray 40)) w6 A5 (t + 1) c5 (vb ((inB key).take (t + 1))) A6 (t + 1) c6 (vb ((outB key).take (t + 1)))) := Lib.hid fun A5 c5 w5 A6 c6 w6 h0 h1 h2 h3 => by
          rw [g2] at h1
          exact (h0.swap.app h1 h2 h3).swap
        have HO1 : Hid ((wr.alloc (.cells #[.int .u8 y1] 5)).ownsRow 0 5 1 (.slice Ai t ci) t (vb ((inB key).take t))) := Lib.hid (HR.out.one.keep ((Keeps.refl _ wr).alloc _)).1
        have HD1 : Hid (Rd (wr.alloc (.cells #[.int .u8 y1] 5)) (some ⟨wr.heap.size, 0, none⟩) 1 [.int .u8 y1]) := Lib.hid (Rd.of_blk (Blk.new wr 5 [.int .u8 y1]) rfl)
        have q1 := hy1.symm
        have q2 := hy2.symm
        clear g1 g2 hk hy1 hy2
        go_wp2_with (first
          | (at_builtin; refine wpList_append_rd _ rfl (.tmp 31) (.tmp 34) 22 rfl 5 (.int .u8 0) 1 Tryd.underlying22 info5 rfl (.slice Ai t ci) t _ rfl HO1.out _ 1 1 _ rfl HD1.out (by intro u hu; rw [List.mem_singleton.1 hu]; rfl) (by unfold maxLen; omega) (by omega) ?_; intro A5 c5 w5 hown hg hb; have HR5 := Lib.hid (HST1.out A5 c5 w5 hown hg (by simpa only [World.size_alloc] using hb)); have HO2 := Lib.hid ((HR5.out.two.keep ((Keeps.refl _ w5).alloc (.cells #[.int .u8 y2] 5))).1); have HD2 := Lib.hid (Rd.of_blk (Blk.new w5 5 [.int .u8 y2]) (n := 1) rfl); clear hown hg hb)
          | (at_builtin; refine wpList_append_rd _ rfl (.tmp 36) (.tmp 39) 22 rfl 5 (.int .u8 0) 1 Tryd.underlying22 info5 rfl (.slice Ao t co) t _ rfl HO2.out _ 1 1 _ rfl HD2.out (by intro u hu; rw [List.mem_singleton.1 hu]; rfl) (by unfold maxLen; omega) (by omega) ?_; intro A6 c6 w6 hown hg hb; have HR6 := Lib.hid (HST2.out _ _ _ A6 c6 w6 HR5.out hown hg (by simpa only [World.size_alloc] using hb)); clear hown hg hb))
        go_roundw
        case rel => exact ⟨t + 1, A5, c5, A6, c6, by omega, by go_num, rfl, rfl, HR6.out⟩
        case measure => simp [intOf]; omega
    · obtain rfl : t = 64 := by omega
      have e1 : (inB key).take 64 = inB key := List.take_of_length_le (by rw [inB_length]; omega)
      have e2 : (outB key).take 64 = outB key := List.take_of_length_le (by rw [outB_length]; omega)
      rw [e1, e2] at HR
      have HYR := Lib.hid (HY.out.keep (HK0.out.trans HR.out.one.2.1 (fun _ _ h => h)) (no_out _ _))
      have HOF1 : Hid (∀ W A' c', TwoR (w.alloc (.cells (List.replicate 32 (Value.int .u8 0)).toArray 40)) W A' (64 + m) c' (vb (inB key) ++ vb msg) Ao 64 co (vb (outB key)) → Calls Tryd.prog 49 #[.slice A' (64 + m) c'] W fun e w' => e = .returned (.agg (vb (sumF first 0 (inB key ++ msg))).toArray) ∧ Keeps (fun _ => False) W w') := Lib.hid fun W A' c' h => by
        refine rof_any W A' (64 + m) c' (inB key ++ msg) (by rw [List.length_append, inB_length, HN'.out]) ?_ ?_ (by omega)
        · have := Rd.of_own h.one.1
          simpa [vb] using this
        · intro z hz
          rcases List.mem_append.1 hz with h1 | h1
          · exact inB_bytes HBX.out z h1
          · exact HBY.out z h1
      have HTL : Hid ((vb (sumF first 0 (inB key ++ msg))).length = 32) := Lib.hid (by rw [vb_length, sumF_length])
      have HD1 : Hid (∀ u ∈ vb (sumF first 0 (inB key ++ msg)), u.oneCell' = true) := Lib.hid (vb_one _)
      have HOF2 : Hid (∀ W A' c' A2 n2 c2 xs, TwoR (w.alloc (.cells (List.replicate 32 (Value.int .u8 0)).toArray 40)) W A' (64 + 32) c' (vb (outB key) ++ vb (sumF first 0 (inB key ++ msg))) A2 n2 c2 xs → Calls Tryd.prog 49 #[.slice A' (64 + 32) c'] W fun e w' => e = .returned (.agg (vb (macF key msg)).toArray) ∧ Keeps (fun _ => False) W w') := Lib.hid fun W A' c' A2 n2 c2 xs h => by
        refine rof_any W A' (64 + 32) c' (outB key ++ sumF first 0 (inB key ++ msg)) (by rw [List.length_append, outB_length, sumF_length]) ?_ ?_ (by omega)
        · have := Rd.of_own h.one.1
          simpa [vb] using this
        · intro z hz
          rcases List.mem_append.1 hz with h1 | h1
          · exact outB_bytes HBX.out z h1
          · exact sumF_bytes _ _ _ z h1
      have HML : Hid ((vb (macF key msg)).length = 32) := Lib.hid (by rw [vb_length, macF_length])
      have HM1 : Hid (∀ u ∈ vb (macF key msg), u.oneCell' = true) := Lib.hid (vb_one _)
      obtain ⟨DV, hDV⟩ : ∃ DV, DV = vb (sumF first 0 (inB key ++ msg)) := ⟨_, rfl⟩
      obtain ⟨MV, hMV⟩ : ∃ MV, MV = vb (macF key msg) := ⟨_, rfl⟩
      rw [← hDV] at HOF1 HOF2 HTL HD1
      rw [← hMV] at HOF2 HML HM1
      have HMV := Lib.hid hMV
      clear hDV hMV e1 e2
      have tok1 : True := trivial
      go_wp2_with (first
        | (at_builtin; refine wpList_append_rd _ rfl (.tmp 41) (.tmp 42) 22 rfl 5 (.int .u8 0) 1 Tryd.underlying22 info5 rfl (.slice Ai 64 ci) 64 _ rfl HR.out.one.1 B m d (vb msg) rfl HYR.out (vb_one msg) (by unfold maxLen; omega) (by omega) ?_; intro A2 c2 w2 hown hg hb; have HR2 := Lib.hid (HR.out.app0 hown hg hb); clear hown hg hb)
        | (go_at_call 49; have _t := tok1; clear tok1; refine (HOF1.out w2 A2 c2 HR2.out).mono ?_; rintro e w3 ⟨rfl, hk3⟩; have HK3 := Lib.hid hk3; have HZ3 := Lib.hid (Blk.new w3 40 (List.replicate 32 (Value.int .u8 0))); clear hk3)
        | ((with_reducible show wpList _ _ _ (⟨none, Op.store 40 (.tmp 10) _, _, _, _, _⟩ :: _) _ _); refine wpList_store_whole rfl 40 _ _ rfl DV rfl rfl HZ3.out (by rw [HTL.out]; simp) (by rw [HTL.out]; kernel_rfl) HD1.out ?_; have hb5 := HZ3.out.setRow DV; have hk5 := (HK3.out.alloc (.cells (List.replicate 32 (Value.int .u8 0)).toArray 40)).setRow (.inr HK3.out.size) DV.toArray; refine gen_world (fun W => Blk W w3.heap.size 40 DV ∧ Keeps (fun _ => False) w2 W) ⟨hb5, hk5⟩ ?_; clear hb5 hk5; rintro w5 ⟨hb5, hk5⟩; have HR5 := Lib.hid (HR2.out.swap.keep hk5); have HRD := Lib.hid (Rd.of_blk hb5 HTL.out); clear hb5 hk5)
        | (at_builtin; refine wpList_append_rd _ rfl (.tmp 45) (.tmp 46) 22 rfl 5 (.int .u8 0) 1 Tryd.underlying22 info5 rfl (.slice Ao 64 co) 64 _ rfl HR5.out.one.1 _ 32 32 _ rfl HRD.out HD1.out (by unfold maxLen; omega) (by omega) ?_; intro A6 c6 w6 hown hg hb; have HR6 := Lib.hid (HR5.out.app0 hown hg hb); clear hown hg hb)
        | (go_at_call 49; refine (HOF2.out w6 A6 c6 _ _ _ _ HR6.out).mono ?_; rintro e w7 ⟨rfl, hk7⟩; have hk07 := HR6.out.one.2.1.trans hk7 (fun _ _ h => h); have HK7 := Lib.hid (HK0.out.trans hk07 (fun _ _ h => h)); have HZ7 := Lib.hid (hk07.blk HZ.out (fun h => h)); clear hk7 hk07)
        | ((with_reducible show wpList _ _ _ (⟨none, Op.store 40 (.tmp 4) _, _, _, _, _⟩ :: _) _ _); refine wpList_store_whole rfl 40 _ _ rfl MV rfl rfl HZ7.out (by rw [HML.out]; simp) (by rw [HML.out]; kernel_rfl) HM1.out ?_))
      refine bodyPost_ret (results_blk rfl _ _ rfl (HZ7.out.setRow MV) Tryd.underlying40 rfl (by rw [HML.out]; kernel_rfl)) rfl ⟨by rw [HMV.out], HK7.out.setRow (.inr (Nat.le_refl _)) _⟩
set_option maxHeartbeats 2000000 in
set_option maxRecDepth 100000 in
theorem rmac_long (w : World) (A B : Option Addr) (n c m d : Nat) (key msg : List Int) (hn : key.length = n) (hx : Rd w A n (vb key)) (bx : IsBytes key) (h64 : 64 < n) (hm : n ≤ 140737488351232)
    (hn' : msg.length = m) (hy : Rd w B m (vb msg)) (by' : IsBytes msg) (hm' : m ≤ 140737488353280) :
    Calls Tryd.prog 30 #[.slice A n c, .slice B m d] w fun e w' => e = .returned (.agg (vb (macF key msg)).toArray) ∧ Keeps (fun _ => False) w w' := by
  have hgt : 64 < (n : Int) := by omega
  have HLONG : Hid (macF (sumF first 0 key) msg = macF key msg) := Lib.hid (macF_long key msg (by omega))
  have HOF : Hid (∀ W, Keeps (fun _ => False) w W → Calls Tryd.prog 49 #[.slice A n c] W fun e w' => e = .returned (.agg (vb (sumF first 0 key)).toArray) ∧ Keeps (fun _ => False) W w') := Lib.hid fun W hk => rof_any W A n c key hn (hx.keep hk (no_out _ _)) bx (by omega)
  have HN : Hid ((sumF first 0 key).length = 32) := Lib.hid (sumF_length _ _ _)
  have HBX : Hid (IsBytes (sumF first 0 key)) := Lib.hid (sumF_bytes _ _ _)
  obtain ⟨D0, hD0⟩ : ∃ D0, D0 = sumF first 0 key := ⟨_, rfl⟩
  rw [← hD0] at HLONG HOF HN HBX
  obtain ⟨KV, hKV⟩ : ∃ KV, KV = vb D0 := ⟨_, rfl⟩
  have HKV := Lib.hid hKV
  have HKL : Hid (KV.length = 32) := Lib.hid (by rw [hKV, vb_length, HN.out])
  have HK1 : Hid (∀ u ∈ KV, u.oneCell' = true) := Lib.hid (by rw [hKV]; exact vb_one _)
  rw [← hKV] at HOF
  have HY := Lib.hid hy
  have HN' := Lib.hid hn'
  have HBY := Lib.hid by'
  have HZ0 := Lib.hid (Blk.new w 40 (List.replicate 32 (Value.int .u8 0)))
  have HKA : Hid (Keeps (fun _ => False) w (w.alloc (.cells (List.replicate 32 (Value.int .u8 0)).toArray 40))) := Lib.hid ((Keeps.refl _ w).alloc _)
  clear hx hy hn hn' bx by' hD0 hKV
  go_enter Tryd.func30, Tryd.ntmps30
  go_wp2_with (first
    | (go_at_call 49; refine (HOF.out _ HKA.out).mono ?_; rintro e wa ⟨rfl, hka⟩; have HKA2 := Lib.hid hka; have HZA := Lib.hid (Blk.new wa 40 (List.replicate 32 (Value.int .u8 0))); clear hka)
    | ((with_reducible show wpList _ _ _ (⟨none, Op.store 40 (.tmp 5) _, _, _, _, _⟩ :: _) _ _); refine wpList_store_whole rfl 40 _ _ rfl KV rfl rfl HZA.out (by rw [HKL.out]; simp) (by rw [HKL.out]; kernel_rfl) HK1.out ?_; have hb2 := HZA.out.setRow KV; have hk2 := (HKA2.out.alloc (.cells (List.replicate 32 (Value.int .u8 0)).toArray 40)).setRow (.inr HKA2.out.size) KV.toArray; refine gen_world (fun W => Blk W wa.heap.size 40 KV ∧ Keeps (fun _ => False) (w.alloc (.cells (List.replicate 32 (Value.int .u8 0)).toArray 40)) W) ⟨hb2, hk2⟩ ?_; clear hb2 hk2; rintro W2 ⟨hb2, hk2⟩; have HK2 := Lib.hid (HKA.out.trans hk2 (fun _ _ h => h)); have HZ2 := Lib.hid (hk2.blk HZ0.out (fun h => h)); have HO2 := Lib.hid (World.ownsRow_made (base := 0) (e := 5) (size := 1) W2 #[] 0 (by omega) (by unfold maxLen; omega) rfl); have HR2 := Lib.hid ((Rd.of_blk hb2 HKL.out).alloc (.cells #[] 5)); clear hb2 hk2)
    | (at_builtin; refine wpList_append_rd _ rfl (.tmp 16) (.tmp 17) 22 rfl 5 (.int .u8 0) 1 Tryd.underlying22 info5 rfl (.slice (some ⟨W2.heap.size, 0, none⟩) 0 0) 0 [] rfl HO2.out _ 32 32 KV rfl HR2.out HK1.out (by unfold maxLen; omega) (by omega) ?_; intro A3 c3 w9 hown hg hb; simp only [Nat.zero_add, List.nil_append] at hown hb ⊢; have HM3 := Lib.hid (Mine.app0 (A := some ⟨W2.heap.size, 0, none⟩) (m := 0) (c := 0) (xs := []) (w := w) ⟨HO2.out, HK2.out.alloc _, fun g e => by have e1 : some W2.heap.size = some g := e; injection e1 with e1; have := HK2.out.size; omega⟩ hown hg hb); have HZ := Lib.hid ((Keeps.of_grown hg).blk (HZ2.out.alloc (.cells #[] 5)) (fun e => by have e1 : some W2.heap.size = some w.heap.size := e; injection e1 with e1; have := HZ2.out.lt; omega)); clear hown hg hb))
  have HK0 : Hid (Keeps (fun _ => False) w w9) := Lib.hid HM3.out.2.1
  have HX : Hid (Rd w9 A3 32 (vb D0)) := Lib.hid (by rw [← HKV.out]; exact Rd.of_own HM3.out.1)
  go_loopw [6, 7, 8] (fun I O i wr => ∃ (t : Nat) (Ai : Option Addr) (ci : Nat) (Ao : Option Addr) (co : Nat), t ≤ 64 ∧ i = .int .i64 t ∧ I = .slice Ai t ci ∧ O = .slice Ao t co ∧ TwoR w9 wr Ai t ci (vb ((inB D0).take t)) Ao t co (vb ((outB D0).take t))) (fun _ _ i _ => 64 - (intOf i).toNat)
  case atStart => exact ⟨0, none, 0, none, 0, by omega, rfl, rfl, rfl, ⟨⟨World.ownsRow_nil _ _ _ _, Keeps.refl _ _, fun g h => by cases h⟩, ⟨World.ownsRow_nil _ _ _ _, Keeps.refl _ _, fun g h => by cases h⟩, fun g h => by cases h⟩⟩
  case round =>
    obtain ⟨t, Ai, ci, Ao, co, ht, rfl, rfl, rfl, hr⟩ := hrel
    have HR := Lib.hid hr
    clear hr
    by_cases hlt : t < 64
    · have hlt' : (t : Int) < 64 := by omega
      by_cases htn : t < 32
      · have htn' : (t : Int) < 32 := by omega
        obtain ⟨g, o, e, hcell⟩ := (HX.out.keep HR.out.one.2.1 (no_out _ _)).2 (by omega)
        subst e
        have hc0 := hcell t htn
        obtain ⟨k, hk'⟩ : ∃ k, k = D0.getD t 0 := ⟨_, rfl⟩
        have hk : (keyB D0).getD t 0 = k := by rw [keyB_at D0 (by rw [HN.out]; omega), hk']
        have hb : 0 ≤ k ∧ k < 256 := by
          rw [hk', List.getD_eq_getElem?_getD, List.getElem?_eq_getElem (by rw [HN.out]; exact htn)]
          exact HBX.out _ (List.getElem_mem _)
        have hv : (vb D0)[t]? = some (.int .u8 k) := by
          unfold vb
          rw [List.getElem?_map, List.getElem?_eq_getElem (by rw [HN.out]; exact htn), hk', List.getD_eq_getElem?_getD, List.getElem?_eq_getElem (by rw [HN.out]; exact htn)]
          rfl
        rw [hv] at hc0
        obtain ⟨hb1, hb2⟩ := hb
        clear hv hk' hcell
        obtain ⟨y1, hy1⟩ : ∃ y1, y1 = bits .xor .u8 k 0x36 := ⟨_, rfl⟩
        obtain ⟨y2, hy2⟩ : ∃ y2, y2 = bits .xor .u8 k 0x5c := ⟨_, rfl⟩
        have g1 : vb ((inB D0).take t) ++ [.int .u8 y1] = vb ((inB D0).take (t + 1)) := by
          have h := xorB_take (keyB D0) 0x36 t (by rw [keyB_length]; omega)
          rw [hk] at h
          unfold inB
          rw [← h, hy1]
          simp [vb]
        have g2 : vb ((outB D0).take t) ++ [.int .u8 y2] = vb ((outB D0).take (t + 1)) := by
          have h := xorB_take (keyB D0) 0x5c t (by rw [keyB_length]; omega)
          rw [hk] at h
          unfold outB
          rw [← h, hy2]
          simp [vb]
        have HST1 : Hid (∀ A5 c5 w5, w5.ownsRow 0 5 1 (.slice A5 (t + 1) c5) (t + 1) (vb ((inB D0).take t) ++ [.int .u8 y1]) → (wr.alloc (.cells #[.int .u8 y1] 5)).grownBy w5 (Value.slice Ai t ci).ownBlock → ((Value.slice A5 (t + 1) c5).ownBlock = (Value.slice Ai t ci).ownBlock ∨ (Value.slice A5 (t + 1) c5).ownBlock = some (wr.heap.size + 1)) → TwoR w9 w5 A5 (t + 1) c5 (vb ((inB D0).take (t + 1))) Ao t co (vb ((outB D0).take t))) := Lib.hid fun A5 c5 w5 h1 h2 h3 => by
          rw [g1] at h1
          exact HR.out.app h1 h2 h3
        have HST2 : Hid (∀ A5 c5 w5 A6 c6 w6, TwoR w9 w5 A5 (t + 1) c5 (vb ((inB D0).take (t + 1))) Ao t co (vb ((outB D0).take t)) → w6.ownsRow 0 5 1 (.slice A6 (t + 1) c6) (t + 1) (vb ((outB D0).take t) ++ [.int .u8 y2]) → (w5.alloc (.cells #[.int .u8 y2] 5)).grownBy w6 (Value.slice Ao t co).ownBlock → ((Value.slice A6 (t + 1) c6).ownBlock = (Value.slice Ao t co).ownBlock ∨ (Value.slice A6 (t + 1) c6).ownBlock = some (w5.heap.size + 1)) → TwoR w9 w6 A5 (t + 1) c5 (vb ((inB D0).take (t + 1))) A6 (t + 1) c6 (vb ((outB D0).take (t + 1)))) := Lib.hid fun A5 c5 w5 A6 c6 w6 h0 h1 h2 h3 => by
          rw [g2] at h1
          exact (h0.swap.app h1 h2 h3).swap
        have HO1 : Hid ((wr.alloc (.cells #[.int .u8 y1] 5)).ownsRow 0 5 1 (.slice Ai t ci) t (vb ((inB D0).take t))) := Lib.hid (HR.out.one.keep ((Keeps.refl _ wr).alloc _)).1
        have HD1 : Hid (Rd (wr.alloc (.cells #[.int .u8 y1] 5)) (some ⟨wr.heap.size, 0, none⟩) 1 [.int .u8 y1]) := Lib.hid (Rd.of_blk (Blk.new wr 5 [.int .u8 y1]) rfl)
        have q1 := hy1.symm
        have q2 := hy2.symm
        clear g1 g2 hk hy1 hy2
        go_wp2_with (first
          | (at_builtin; refine wpList_append_rd _ rfl (.tmp 31) (.tmp 34) 22 rfl 5 (.int .u8 0) 1 Tryd.underlying22 info5 rfl (.slice Ai t ci) t _ rfl HO1.out _ 1 1 _ rfl HD1.out (by intro u hu; rw [List.mem_singleton.1 hu]; rfl) (by unfold maxLen; omega) (by omega) ?_; intro A5 c5 w5 hown hg hb; have HR5 := Lib.hid (HST1.out A5 c5 w5 hown hg (by simpa only [World.size_alloc] using hb)); have HO2 := Lib.hid ((HR5.out.two.keep ((Keeps.refl _ w5).alloc (.cells #[.int .u8 y2] 5))).1); have HD2 := Lib.hid (Rd.of_blk (Blk.new w5 5 [.int .u8 y2]) (n := 1) rfl); clear hown hg hb)
          | (at_builtin; refine wpList_append_rd _ rfl (.tmp 36) (.tmp 39) 22 rfl 5 (.int .u8 0) 1 Tryd.underlying22 info5 rfl (.slice Ao t co) t _ rfl HO2.out _ 1 1 _ rfl HD2.out (by intro u hu; rw [List.mem_singleton.1 hu]; rfl) (by unfold maxLen; omega) (by omega) ?_; intro A6 c6 w6 hown hg hb; have HR6 := Lib.hid (HST2.out _ _ _ A6 c6 w6 HR5.out hown hg (by simpa only [World.size_alloc] using hb)); clear hown hg hb))
        go_roundw
        case rel => exact ⟨t + 1, A5, c5, A6, c6, by omega, by go_num, rfl, rfl, HR6.out⟩
        case measure => simp [intOf]; omega
      · have htn' : ¬ ((t : Int) < 32) := by omega
        have hk : (keyB D0).getD t 0 = 0 := by
          rw [keyB_at D0 (by rw [HN.out]; omega), List.getD_eq_getElem?_getD, List.getElem?_eq_none (by rw [HN.out]; omega)]
          rfl
        obtain ⟨y1, hy1⟩ : ∃ y1, y1 = bits .xor .u8 0 0x36 := ⟨_, rfl⟩
        obtain ⟨y2, hy2⟩ : ∃ y2, y2 = bits .xor .u8 0 0x5c := ⟨_, rfl⟩
        have g1 : vb ((inB D0).take t) ++ [.int .u8 y1] = vb ((inB D0).take (t + 1)) := by
          have h := xorB_take (keyB D0) 0x36 t (by rw [keyB_length]; omega)
          rw [hk] at h
          unfold inB
          rw [← h, hy1]
          simp [vb]
        have g2 : vb ((outB D0).take t) ++ [.int .u8 y2] = vb ((outB D0).take (t + 1)) := by
          have h := xorB_take (keyB D0) 0x5c t (by rw [keyB_length]; omega)
          rw [hk] at h
          unfold outB
          rw [← h, hy2]
          simp [vb]
        have HST1 : Hid (∀ A5 c5 w5, w5.ownsRow 0 5 1 (.slice A5 (t + 1) c5) (t + 1) (vb ((inB D0).take t) ++ [.int .u8 y1]) → (wr.alloc (.cells #[.int .u8 y1] 5)).grownBy w5 (Value.slice Ai t ci).ownBlock → ((Value.slice A5 (t + 1) c5).ownBlock = (Value.slice Ai t ci).ownBlock ∨ (Value.slice A5 (t + 1) c5).ownBlock = some (wr.heap.size + 1)) → TwoR w9 w5 A5 (t + 1) c5 (vb ((inB D0).take (t + 1))) Ao t co (vb ((outB D0).take t))) := Lib.hid fun A5 c5 w5 h1 h2 h3 => by
          rw [g1] at h1
          exact HR.out.app h1 h2 h3
        have HST2 : Hid (∀ A5 c5 w5 A6 c6 w6, TwoR w9 w5 A5 (t + 1) c5 (vb ((inB D0).take (t + 1))) Ao t co (vb ((outB D0).take t)) → w6.ownsRow 0 5 1 (.slice A6 (t + 1) c6) (t + 1) (vb ((outB D0).take t) ++ [.int .u8 y2]) → (w5.alloc (.cells #[.int .u8 y2] 5)).grownBy w6 (Value.slice Ao t co).ownBlock → ((Value.slice A6 (t + 1) c6).ownBlock = (Value.slice Ao t co).ownBlock ∨ (Value.slice A6 (t + 1) c6).ownBlock = some (w5.heap.size + 1)) → TwoR w9 w6 A5 (t + 1) c5 (vb ((inB D0).take (t + 1))) A6 (t + 1) c6 (vb ((outB D0).take (t + 1)))) := Lib.hid fun A5 c5 w5 A6 c6 w6 h0 h1 h2 h3 => by
          rw [g2] at h1
          exact (h0.swap.app h1 h2 h3).swap
        have HO1 : Hid ((wr.alloc (.cells #[.int .u8 y1] 5)).ownsRow 0 5 1 (.slice Ai t ci) t (vb ((inB D0).take t))) := Lib.hid (HR.out.one.keep ((Keeps.refl _ wr).alloc _)).1
        have HD1 : Hid (Rd (wr.alloc (.cells #[.int .u8 y1] 5)) (some ⟨wr.heap.size, 0, none⟩) 1 [.int .u8 y1]) := Lib.hid (Rd.of_blk (Blk.new wr 5 [.int .u8 y1]) rfl)
        have q1 := hy1.symm
        have q2 := hy2.symm
        clear g1 g2 hk hy1 hy2
        go_wp2_with (first
          | (at_builtin; refine wpList_append_rd _ rfl (.tmp 31) (.tmp 34) 22 rfl 5 (.int .u8 0) 1 Tryd.underlying22 info5 rfl (.slice Ai t ci) t _ rfl HO1.out _ 1 1 _ rfl HD1.out (by intro u hu; rw [List.mem_singleton.1 hu]; rfl) (by unfold maxLen; omega) (by omega) ?_; intro A5 c5 w5 hown hg hb; have HR5 := Lib.hid (HST1.out A5 c5 w5 hown hg (by simpa only [World.size_alloc] using hb)); have HO2 := Lib.hid ((HR5.out.two.keep ((Keeps.refl _ w5).alloc (.cells #[.int .u8 y2] 5))).1); have HD2 := Lib.hid (Rd.of_blk (Blk.new w5 5 [.int .u8 y2]) (n := 1) rfl); clear hown hg hb)
          | (at_builtin; refine wpList_append_rd _ rfl (.tmp 36) (.tmp 39) 22 rfl 5 (.int .u8 0) 1 Tryd.underlying22 info5 rfl (.slice Ao t co) t _ rfl HO2.out _ 1 1 _ rfl HD2.out (by intro u hu; rw [List.mem_singleton.1 hu]; rfl) (by unfold maxLen; omega) (by omega) ?_; intro A6 c6 w6 hown hg hb; have HR6 := Lib.hid (HST2.out _ _ _ A6 c6 w6 HR5.out hown hg (by simpa only [World.size_alloc] using hb)); clear hown hg hb))
        go_roundw
        case rel => exact ⟨t + 1, A5, c5, A6, c6, by omega, by go_num, rfl, rfl, HR6.out⟩
        case measure => simp [intOf]; omega
    · obtain rfl : t = 64 := by omega
      have e1 : (inB D0).take 64 = inB D0 := List.take_of_length_le (by rw [inB_length]; omega)
      have e2 : (outB D0).take 64 = outB D0 := List.take_of_length_le (by rw [outB_length]; omega)
      rw [e1, e2] at HR
      have HYR := Lib.hid (HY.out.keep (HK0.out.trans HR.out.one.2.1 (fun _ _ h => h)) (no_out _ _))
      have HOF1 : Hid (∀ W A' c', TwoR w9 W A' (64 + m) c' (vb (inB D0) ++ vb msg) Ao 64 co (vb (outB D0)) → Calls Tryd.prog 49 #[.slice A' (64 + m) c'] W fun e w' => e = .returned (.agg (vb (sumF first 0 (inB D0 ++ msg))).toArray) ∧ Keeps (fun _ => False) W w') := Lib.hid fun W A' c' h => by
        refine rof_any W A' (64 + m) c' (inB D0 ++ msg) (by rw [List.length_append, inB_length, HN'.out]) ?_ ?_ (by omega)
        · have := Rd.of_own h.one.1
          simpa [vb] using this
        · intro z hz
          rcases List.mem_append.1 hz with h1 | h1
          · exact inB_bytes HBX.out z h1
          · exact HBY.out z h1
      have HTL : Hid ((vb (sumF first 0 (inB D0 ++ msg))).length = 32) := Lib.hid (by rw [vb_length, sumF_length])
      have HD1 : Hid (∀ u ∈ vb (sumF first 0 (inB D0 ++ msg)), u.oneCell' = true) := Lib.hid (vb_one _)
      have HOF2 : Hid (∀ W A' c' A2 n2 c2 xs, TwoR w9 W A' (64 + 32) c' (vb (outB D0) ++ vb (sumF first 0 (inB D0 ++ msg))) A2 n2 c2 xs → Calls Tryd.prog 49 #[.slice A' (64 + 32) c'] W fun e w' => e = .returned (.agg (vb (macF D0 msg)).toArray) ∧ Keeps (fun _ => False) W w') := Lib.hid fun W A' c' A2 n2 c2 xs h => by
        refine rof_any W A' (64 + 32) c' (outB D0 ++ sumF first 0 (inB D0 ++ msg)) (by rw [List.length_append, outB_length, sumF_length]) ?_ ?_ (by omega)
        · have := Rd.of_own h.one.1
          simpa [vb] using this
        · intro z hz
          rcases List.mem_append.1 hz with h1 | h1
          · exact outB_bytes HBX.out z h1
          · exact sumF_bytes _ _ _ z h1
      have HML : Hid ((vb (macF D0 msg)).length = 32) := Lib.hid (by rw [vb_length, macF_length])
      have HM1 : Hid (∀ u ∈ vb (macF D0 msg), u.oneCell' = true) := Lib.hid (vb_one _)
      obtain ⟨DV, hDV⟩ : ∃ DV, DV = vb (sumF first 0 (inB D0 ++ msg)) := ⟨_, rfl⟩
      obtain ⟨MV, hMV⟩ : ∃ MV, MV = vb (macF D0 msg) := ⟨_, rfl⟩
      rw [← hDV] at HOF1 HOF2 HTL HD1
      rw [← hMV] at HOF2 HML HM1
      have HMV := Lib.hid hMV
      clear hDV hMV e1 e2
      have tok1 : True := trivial
      go_wp2_with (first
        | (at_builtin; refine wpList_append_rd _ rfl (.tmp 41) (.tmp 42) 22 rfl 5 (.int .u8 0) 1 Tryd.underlying22 info5 rfl (.slice Ai 64 ci) 64 _ rfl HR.out.one.1 B m d (vb msg) rfl HYR.out (vb_one msg) (by unfold maxLen; omega) (by omega) ?_; intro A2 c2 w2 hown hg hb; have HR2 := Lib.hid (HR.out.app0 hown hg hb); clear hown hg hb)
        | (go_at_call 49; have _t := tok1; clear tok1; refine (HOF1.out w2 A2 c2 HR2.out).mono ?_; rintro e w3 ⟨rfl, hk3⟩; have HK3 := Lib.hid hk3; have HZ3 := Lib.hid (Blk.new w3 40 (List.replicate 32 (Value.int .u8 0))); clear hk3)
        | ((with_reducible show wpList _ _ _ (⟨none, Op.store 40 (.tmp 10) _, _, _, _, _⟩ :: _) _ _); refine wpList_store_whole rfl 40 _ _ rfl DV rfl rfl HZ3.out (by rw [HTL.out]; simp) (by rw [HTL.out]; kernel_rfl) HD1.out ?_; have hb5 := HZ3.out.setRow DV; have hk5 := (HK3.out.alloc (.cells (List.replicate 32 (Value.int .u8 0)).toArray 40)).setRow (.inr HK3.out.size) DV.toArray; refine gen_world (fun W => Blk W w3.heap.size 40 DV ∧ Keeps (fun _ => False) w2 W) ⟨hb5, hk5⟩ ?_; clear hb5 hk5; rintro w5 ⟨hb5, hk5⟩; have HR5 := Lib.hid (HR2.out.swap.keep hk5); have HRD := Lib.hid (Rd.of_blk hb5 HTL.out); clear hb5 hk5)
        | (at_builtin; refine wpList_append_rd _ rfl (.tmp 45) (.tmp 46) 22 rfl 5 (.int .u8 0) 1 Tryd.underlying22 info5 rfl (.slice Ao 64 co) 64 _ rfl HR5.out.one.1 _ 32 32 _ rfl HRD.out HD1.out (by unfold maxLen; omega) (by omega) ?_; intro A6 c6 w6 hown hg hb; have HR6 := Lib.hid (HR5.out.app0 hown hg hb); clear hown hg hb)
        | (go_at_call 49; refine (HOF2.out w6 A6 c6 _ _ _ _ HR6.out).mono ?_; rintro e w7 ⟨rfl, hk7⟩; have hk07 := HR6.out.one.2.1.trans hk7 (fun _ _ h => h); have HK7 := Lib.hid (HK0.out.trans hk07 (fun _ _ h => h)); have HZ7 := Lib.hid (hk07.blk HZ.out (fun h => h)); clear hk7 hk07)
        | ((with_reducible show wpList _ _ _ (⟨none, Op.store 40 (.tmp 4) _, _, _, _, _⟩ :: _) _ _); refine wpList_store_whole rfl 40 _ _ rfl MV rfl rfl HZ7.out (by rw [HML.out]; simp) (by rw [HML.out]; kernel_rfl) HM1.out ?_))
      refine bodyPost_ret (results_blk rfl _ _ rfl (HZ7.out.setRow MV) Tryd.underlying40 rfl (by rw [HML.out]; kernel_rfl)) rfl ⟨by rw [HMV.out, HLONG.out], HK7.out.setRow (.inr (Nat.le_refl _)) _⟩
theorem rmac_any (w : World) (A B : Option Addr) (n c m d : Nat) (key msg : List Int) (hn : key.length = n) (hx : Rd w A n (vb key)) (bx : IsBytes key) (hm : n ≤ 140737488351232)
    (hn' : msg.length = m) (hy : Rd w B m (vb msg)) (by' : IsBytes msg) (hm' : m ≤ 140737488353280) :
    Calls Tryd.prog 30 #[.slice A n c, .slice B m d] w fun e w' => e = .returned (.agg (vb (macF key msg)).toArray) ∧ Keeps (fun _ => False) w w' := by
  by_cases h : n ≤ 64
  · exact rmac_short w A B n c m d key msg hn hx bx h hn' hy by' hm'
  · exact rmac_long w A B n c m d key msg hn hx bx (by omega) hm hn' hy by' hm'
end Go.Proofs.YtnlnbgjpbnjjfaaDoor
