/- Texts. -/
import Derived.Test.YtplleficmkfniaaGreatDoorS32
import Derived.Test.YtplleficmkfniaaGreatDoorS26
set_option linter.unusedSimpArgs false
set_option maxRecDepth 100000
set_option maxHeartbeats 4000000
namespace Go.Proofs.YtplleficmkfniaaGreatDoor
open Go Go.RowKit Go.Aff Go.Sha Go.Dig Go.Book
theorem mine_since {w w1 wr : World} {e : TypeId} {A : Option Addr} {m c : Nat} {xs : List Value} (h : Mine w1 wr e A m c xs) (hk : Keeps (fun _ => False) w w1) : Mine w wr e A m c xs := ⟨h.1, hk.trans h.2.1 (fun _ _ h => h), fun g hg => Nat.le_trans hk.size (h.2.2 g hg)⟩
theorem mine_byte (w : World) (b : Int) : Mine w (w.alloc (.cells #[.int .u8 b] 5)) 5 (some ⟨w.heap.size, 0, none⟩) 1 1 (vb [b]) := Mine.built w w 5 1 [.int .u8 b] (Keeps.refl _ _) rfl (by unfold maxLen; omega)
theorem rjoined_any (w : World) (tag : Int) (A : Option Addr) (n c : Nat) (a : List Int) (ha : a.length = n) (hra : Rd w A n (vb a)) (hn : n ≤ 1099511627000) (B : Option Addr) (m d : Nat) (b : List Int) (hb : b.length = m) (hrb : Rd w B m (vb b)) (hm : m ≤ 1099511627000) :
  Calls Tryz.prog 128 #[.int .u8 tag, .slice A n c, .slice B m d] w fun e w' => ∃ g c', e = .returned (.slice (some ⟨g, 0, none⟩) (1 + n + m) c') ∧ Mine w w' 5 (some ⟨g, 0, none⟩) (1 + n + m) c' (vb (tag :: (a ++ b))) := by
 have HM := H_ (mine_byte w tag)
 have HRA := H_ (hra.alloc (.cells #[.int .u8 tag] 5))
 have HRB := H_ hrb
 clear hra hrb
 go_enter Tryz.func128, Tryz.ntmps128
 go_wp2_with (first
  | (at_builtin; refine wpList_append_rd _ rfl (.tmp 10) (.tmp 11) 48 rfl 5 (.int .u8 0) 1 Tryz.underlying48 info5 rfl _ 1 _ rfl HM.out.1 A n c _ rfl HRA.out (vb_one _) (by unfold maxLen; omega) (by omega) ?_; intro A7 c7 w7 hown7 hg7 hb7; have HM7 := H_ (HM.out.app0 hown7 hg7 hb7); clear hown7 hg7 hb7)
  | (at_builtin; refine wpList_append_rd _ rfl (.tmp 13) (.tmp 14) 48 rfl 5 (.int .u8 0) 1 Tryz.underlying48 info5 rfl _ (1 + n) _ rfl HM7.out.1 B m d _ rfl (HRB.out.keep HM7.out.2.1 (no_out _ _)) (vb_one _) (by unfold maxLen; omega) (by omega) ?_; intro A8 c8 w8 hown8 hg8 hb8; have HM8 := H_ (HM7.out.app0 hown8 hg8 hb8); clear hown8 hg8 hb8))
 go_ret
 obtain ⟨g, hA, _⟩ := mine_some HM8.out (by omega)
 subst hA
 refine ⟨g, c8, rfl, ?_⟩
 have he : vb [tag] ++ vb a ++ vb b = vb (tag :: (a ++ b)) := by simp [vb]
 rw [← he]
 exact HM8.out
theorem rlist_any (w : World) (d : List Int) (hd : d.length = 32) :
  Calls Tryz.prog 179 #[.agg (vb d).toArray] w fun e w' => ∃ A c', e = .returned (.slice A 32 c') ∧ Hid (Mine w w' 5 A 32 c' (vb d)) := by
 obtain ⟨RV, hRV⟩ : ∃ RV, RV = vb d := ⟨_, rfl⟩
 have hl : RV.length = 32 := by rw [hRV]; simp [vb, hd]
 have HB : Blk (w.alloc (.cells RV.toArray 144)) w.heap.size 144 RV := Blk.new _ _ _
 have HM : Hid (Mine w ((w.alloc (.cells RV.toArray 144)).alloc (.cells #[] 5)) 5 (some ⟨w.heap.size + 1, 0, none⟩) 0 0 []) := H_ (by
  have h := Mine.built w (w.alloc (.cells RV.toArray 144)) 5 0 [] ((Keeps.refl _ w).alloc _) rfl (by unfold maxLen; omega)
  rwa [World.size_alloc] at h)
 have HR := H_ ((Rd.of_blk HB hl).alloc (.cells #[] 5))
 have H1 : Hid (∀ u ∈ RV, u.oneCell' = true) := H_ (by rw [hRV]; exact vb_one _)
 rw [← hRV]
 clear hRV hd HB hl
 go_enter Tryz.func179, Tryz.ntmps179
 go_wp2_with (at_builtin; refine wpList_append_rd _ rfl (.tmp 3) (.tmp 4) 48 rfl 5 (.int .u8 0) 1 Tryz.underlying48 info5 rfl _ 0 [] rfl HM.out.1 (some ⟨w.heap.size, 0, none⟩) 32 32 RV rfl HR.out H1.out (by unfold maxLen; omega) (by omega) ?_; intro A' c' w' hown hg hb; have HM2 := H_ (HM.out.app0 hown hg hb); clear hown hg hb)
 go_ret
 have hm := HM2.out
 rw [List.nil_append, Nat.zero_add] at hm
 exact ⟨A', c', rfl, H_ hm⟩
theorem rhalf_any (n : Nat) (w : World) (h : 2 ≤ n) (h2 : n ≤ 1099511627776) : Calls Tryz.prog 154 #[.int .i64 n] w fun e w' => e = .returned (.int .i64 (spl n : Nat)) ∧ w' = w := by
 have HEND : Hid (∀ a : Nat, 2 ^ a < n → ¬ 2 * 2 ^ a < n → 2 ^ a = spl n) := H_ fun a h1 h2 => (spl_eq h1 (by rw [Nat.pow_succ]; omega)).symm
 obtain ⟨N, hN⟩ : ∃ N, N = spl n := ⟨_, rfl⟩
 rw [← hN] at HEND ⊢
 clear hN
 go_enter Tryz.func154, Tryz.ntmps154
 go_wp2
 go_loop [3] (fun m => ∃ k : Nat, m = .int .i64 k ∧ 0 < k ∧ k < n ∧ Hid (∃ a : Nat, k = 2 ^ a)) (fun m => n - (intOf m).toNat)
 case atStart => exact ⟨1, rfl, by omega, by omega, H_ ⟨0, rfl⟩⟩
 case round =>
  obtain ⟨k, rfl, hk0, hk, HA⟩ := hrel
  have w1 : IntKind.i64.wrap (2 * (k : Int)) = 2 * (k : Int) := IntWalk.i64_in _ (by omega)
  have w2 : IntKind.i64.wrap ((k : Int) * 2) = 2 * (k : Int) := by rw [IntWalk.i64_in _ (by omega)]; omega
  by_cases hlt : 2 * (k : Int) < (n : Int)
  ·go_wp2
   go_round
   case rel =>
    refine ⟨2 * k, by go_num, by omega, by omega, H_ ?_⟩
    obtain ⟨a, ha⟩ := HA.out
    exact ⟨a + 1, by rw [ha, Nat.pow_succ]; omega⟩
   case measure => simp [intOf]; omega
  ·obtain ⟨a, ha⟩ := HA.out
   have he := HEND.out a (by omega) (by omega)
   rw [← ha] at he
   subst he
   clear ha HEND HA a
   go_wp2
   go_ret
   exact ⟨rfl, rfl⟩
def lastE (n k : Nat) : List Int := (eight n).drop (8 - k)
theorem lastE_zero (n : Nat) : lastE n 0 = [] := List.drop_eq_nil_iff.2 (by rw [eight_len]; omega)
theorem lastE_succ (n k : Nat) (h : k < 8) : lastE n (k + 1) = ((n / 256 ^ k % 256 : Nat) : Int) :: lastE n k := by
 unfold lastE
 rw [List.drop_eq_getElem_cons (i := 8 - (k + 1)) (by rw [eight_len]; omega), show 8 - (k + 1) + 1 = 8 - k by omega]
 congr 1
 unfold eight
 rw [List.getElem_map, List.getElem_range, show 7 - (8 - (k + 1)) = k by omega]
theorem div_step (n k : Nat) : n / 256 ^ k / 256 = n / 256 ^ (k + 1) := by rw [Nat.div_div_eq_div_mul, Nat.pow_succ]
theorem reight_any (n : Nat) (w : World) (hn : n < 18446744073709551616) : Calls Tryz.prog 129 #[.int .u64 n] w fun e w' => ∃ A c', e = .returned (.slice A 8 c') ∧ Hid (Mine w w' 5 A 8 c' (vb (eight n))) := by
 go_enter Tryz.func129, Tryz.ntmps129
 go_wp2
 go_loopw [0, 3, 4] (fun q r i wr => ∃ (k : Nat) (A : Option Addr) (c : Nat), k ≤ 8 ∧ q = .int .u64 (n / 256 ^ k : Nat) ∧ i = .int .i64 k ∧ r = .slice A k c ∧ Hid (Mine w wr 5 A k c (vb (lastE n k)))) (fun _ _ i _ => 8 - (intOf i).toNat)
 case atStart => exact ⟨0, none, 0, by omega, by simp, rfl, rfl, H_ ⟨by rw [lastE_zero]; exact World.ownsRow_nil _ _ _ _, Keeps.refl _ _, fun g h => by cases h⟩⟩
 case round =>
  obtain ⟨k, A, c, hk, rfl, rfl, rfl, HO⟩ := hrel
  by_cases hlt : k < 8
  ·obtain ⟨q, hq⟩ : ∃ q, q = n / 256 ^ k := ⟨_, rfl⟩
   have hqb : q < 18446744073709551616 := by rw [hq]; exact Nat.lt_of_le_of_lt (Nat.div_le_self _ _) hn
   have HL : Hid (vb [((q % 256 : Nat) : Int)] ++ vb (lastE n k) = vb (lastE n (k + 1))) := H_ (by rw [lastE_succ n k hlt, ← hq]; rfl)
   have HQ : Hid (q / 256 = n / 256 ^ (k + 1)) := H_ (by rw [hq, div_step])
   rw [← hq]
   clear hq
   have HB := H_ (mine_byte wr ((q % 256 : Nat) : Int))
   have HR := H_ ((Rd.of_own HO.out.1).alloc (.cells #[.int .u8 ((q % 256 : Nat) : Int)] 5))
   have hx1 : Int.tmod (q : Int) 256 = ((q % 256 : Nat) : Int) := by rw [Int.tmod_eq_emod_of_nonneg (by omega)]; omega
   have hx2 : Int.tdiv (q : Int) 256 = ((q / 256 : Nat) : Int) := by rw [Int.tdiv_eq_ediv_of_nonneg (by omega)]; omega
   have hx3 : IntKind.u64.wrap ((q % 256 : Nat) : Int) = ((q % 256 : Nat) : Int) := IntWalk.u64_in _ (by omega)
   have hx4 : IntKind.u64.wrap ((q / 256 : Nat) : Int) = ((q / 256 : Nat) : Int) := IntWalk.u64_in _ (by omega)
   have hx5 : IntKind.u8.wrap ((q % 256 : Nat) : Int) = ((q % 256 : Nat) : Int) := IntWalk.u8_in _ (by omega)
   go_wp2_with (at_builtin; refine wpList_append_rd _ rfl (.tmp 12) (.tmp 13) 48 rfl 5 (.int .u8 0) 1 Tryz.underlying48 info5 rfl _ 1 _ rfl HB.out.1 A k c _ rfl HR.out (vb_one _) (by unfold maxLen; omega) (by omega) ?_; intro A7 c7 w7 hown7 hg7 hb7; have HM7 := H_ (mine_since (HB.out.app0 hown7 hg7 hb7) HO.out.2.1); clear hown7 hg7 hb7)
   go_roundw
   case rel =>
    refine ⟨k + 1, A7, c7, by omega, by rw [← HQ.out]; exact congrArg _ (by omega), by go_num, by rw [Nat.add_comm], H_ ?_⟩
    rw [← HL.out, Nat.add_comm k 1]
    exact HM7.out
   case measure => simp [intOf]; omega
  ·obtain rfl : k = 8 := by omega
   have HE : Hid (lastE n 8 = eight n) := H_ rfl
   rw [HE.out] at HO
   go_wp2
   go_ret
   exact ⟨A, c, rfl, HO⟩
theorem rtexts_push {E : Nat → Prop} {w w3 w5 : World} {p : Nat} {B : Option Addr} {d k : Nat} {vals : List Value} {gs : List Nat} {l : List (List Int)} (h : LogAt 143 48 5 E w p B d vals gs l) (hk : k = l.length) {bs : List Int} {n : Nat} (hn : bs.length = n) (hC : ∀ i, E i → IsCells w i)
  (k3 : Keeps (fun _ => False) w w3) {g3 c3 : Nat} (ho3 : w3.ownsRow 0 5 1 (.slice (some ⟨g3, 0, none⟩) n c3) n (vb bs)) (hg3 : w.heap.size ≤ g3) {A5 : Option Addr} {c5 : Nat}
  (ho5 : w5.ownsRow 0 48 1 (.slice A5 (k + 1) c5) (k + 1) (vals ++ [.slice (some ⟨g3, 0, none⟩) n c3])) (hg5 : (w3.alloc (.cells #[.slice (some ⟨g3, 0, none⟩) n c3] 48)).grownBy w5 (Value.slice B k d).ownBlock)
  (hb5 : (Value.slice A5 (k + 1) c5).ownBlock = (Value.slice B k d).ownBlock ∨ (Value.slice A5 (k + 1) c5).ownBlock = some (w3.alloc (.cells #[.slice (some ⟨g3, 0, none⟩) n c3] 48)).heap.size) :
  Blk w5 p 143 [.slice B k d] ∧ Rd (w5.setCell ⟨p, 0, none⟩ (.slice A5 (k + 1) c5)) (some ⟨g3, 0, none⟩) n (vb bs) ∧ ∃ E', Took (RgSt p) E E' w (w5.setCell ⟨p, 0, none⟩ (.slice A5 (k + 1) c5)) (l ++ [bs]) ∧ ∀ i, E' i → E i ∨ i = g3 ∨ w3.heap.size < i := by
 have k4 : Keeps (fun _ => False) w (w3.alloc (.cells #[.slice (some ⟨g3, 0, none⟩) n c3] 48)) := k3.alloc _
 have h4 := h.keep k4 (fun _ _ h => h)
 have ho4 : (w3.alloc (.cells #[.slice (some ⟨g3, 0, none⟩) n c3] 48)).ownsRow 0 5 1 (.slice (some ⟨g3, 0, none⟩) n c3) n (vb bs) := (((Keeps.refl (fun _ => False) w3).alloc _).own ho3 (fun _ _ h => h))
 have hne : ¬ E g3 := fun e => by have := (hC _ e).lt; omega
 have hr := h4.grow (by decide) (by decide) (by decide) hn hne ho4 hk.symm hg5 ho5 hb5
 have hp : (Value.slice B k d).ownBlock ≠ some p := by rw [hk]; exact own_blk h.row h.box (by decide)
 have hbx := (Keeps.of_grown hg5).blk h4.box hp
 rw [← hk] at hbx
 refine ⟨hbx, Rd.of_own (hr.2.1.own ho4 fun g hg e => hne (by have e1 : some g3 = some g := hg; injection e1 with e1; exact e1 ▸ e)), _, ⟨hr.1, fun i hi => ?_, hr.2.2.1 fun i hi => (hC i hi).keep k4 (fun h => h), (k4.mono fun _ _ h => h.elim).trans hr.2.1 fun _ _ h => h⟩, fun i hi => ?_⟩
 ·rcases hi with hi | hi | hi
  ·exact .inl hi.1
  ·exact .inr (by omega)
  ·exact (hr.2.2.2 i hi).imp id fun h => Nat.le_trans k4.size h
 ·rcases hi with hi | hi | hi
  ·exact .inl hi.1
  ·exact .inr (.inl hi)
  ·rcases hr.2.2.2 i hi with h | h
   ·exact .inl h
   ·rw [World.size_alloc] at h
    exact .inr (.inr (by omega))
theorem rhash_any {E : Nat → Prop} {w0 w : World} {l : List (List Int)} {p : Nat} (hT : Tkg (RgSt p) E w0 l) (hl : l.length ≤ 1099511627776) (k : Keeps (fun _ => False) w0 w) (g n c : Nat) (bs : List Int) (hn : bs.length = n) (hb : n ≤ 1099511627776) (hm : Mine w0 w 5 (some ⟨g, 0, none⟩) n c (vb bs)) (hbs : IsBytes bs) :
  Calls Tryz.prog 127 #[.pointer (some ⟨p, 0, none⟩), .slice (some ⟨g, 0, none⟩) n c] w fun e w' => e = .returned (.agg (vb (hsh bs)).toArray) ∧ ∃ E', Took (RgSt p) E E' w0 w' (l ++ [bs]) := by
 obtain ⟨B, d, vals, gs, hh⟩ := hT.st
 obtain ⟨k0, hk0⟩ : ∃ k0, k0 = l.length := ⟨_, rfl⟩
 obtain ⟨N0, hN0⟩ : ∃ N0, N0 = w.heap.size := ⟨_, rfl⟩
 obtain ⟨DV, hDV⟩ : ∃ DV, DV = vb (hsh bs) := ⟨_, rfl⟩
 have HD1 : Hid (∀ u ∈ DV, u.oneCell' = true) := H_ (by rw [hDV]; exact vb_one _)
 have HDL : Hid (DV.length = 32) := H_ (by rw [hDV]; simp [vb, hsh_len])
 have HIN : Hid ((Tryz.prog.info? 144).map (·.size) = some DV.length) := H_ (by rw [HDL.out]; kernel_rfl)
 have HW1 : Hid (Keeps (fun _ => False) w (w.alloc (.cells (List.replicate 32 (Value.int .u8 0)).toArray 144)) ∧ Blk (w.alloc (.cells (List.replicate 32 (Value.int .u8 0)).toArray 144)) N0 144 (List.replicate 32 (Value.int .u8 0))) := H_ ⟨(Keeps.refl _ w).alloc _, by rw [hN0]; exact Blk.new _ _ _⟩
 have HRO : Hid (∀ W, Rd W (some ⟨g, 0, none⟩) n (vb bs) → Calls Tryz.prog 66 #[.slice (some ⟨g, 0, none⟩) n c] W fun e w' => e = .returned (.agg DV.toArray) ∧ Keeps (fun _ => False) W w') := H_ fun W hW => by
  rw [hDV]
  exact rof_any W (some ⟨g, 0, none⟩) n c bs hn hW hbs (by omega)
 have HX := H_ (And.intro hT (And.intro hh (And.intro hm (And.intro hk0 (And.intro k (And.intro hn hN0))))))
 have hkb : k0 ≤ 1099511627776 := by omega
 rw [← hDV]
 clear hT hh hm hbs hDV hk0 k hN0
 go_enter Tryz.func127, Tryz.ntmps127
 go_upto_region 1 with fail
 refine gen_codeF (fun W => Keeps (fun _ => False) w W ∧ Blk W N0 144 (List.replicate 32 (Value.int .u8 0))) HW1.out ?_
 rintro w1 ⟨k1, z1⟩
 obtain ⟨hT, hh, hm, hk0, k, hn', hN0⟩ := HX.out
 rw [← hN0]
 have k2 : Keeps (fun _ => False) w0 w1 := k.trans k1 fun _ _ h => h
 have hc0 : w1.cell? ⟨p, 0, none⟩ = some (.slice B k0 d) := by
  have h := (k2.blk hh.box (fun h => h)).cell 0
  rw [← hk0] at h
  exact h
 have HOW : Hid ((w1.alloc (.cells #[.slice (some ⟨g, 0, none⟩) n c] 48)).ownsRow 0 48 1 (.slice B k0 d) k0 vals) := H_ (by
  have h := (hh.keep (k2.alloc (.cells #[.slice (some ⟨g, 0, none⟩) n c] 48)) (fun _ _ h => h)).row
  rwa [← hk0] at h)
 have HRN : Hid (Rd (w1.alloc (.cells #[.slice (some ⟨g, 0, none⟩) n c] 48)) (some ⟨w1.heap.size, 0, none⟩) 1 [.slice (some ⟨g, 0, none⟩) n c]) := H_ (Rd.of_blk (Blk.new w1 48 [.slice (some ⟨g, 0, none⟩) n c]) (n := 1) rfl)
 have HPU : Hid (∀ A5 c5 w5, w5.ownsRow 0 48 1 (.slice A5 (k0 + 1) c5) (k0 + 1) (vals ++ [.slice (some ⟨g, 0, none⟩) n c]) → (w1.alloc (.cells #[.slice (some ⟨g, 0, none⟩) n c] 48)).grownBy w5 (Value.slice B k0 d).ownBlock →
   ((Value.slice A5 (k0 + 1) c5).ownBlock = (Value.slice B k0 d).ownBlock ∨ (Value.slice A5 (k0 + 1) c5).ownBlock = some (w1.alloc (.cells #[.slice (some ⟨g, 0, none⟩) n c] 48)).heap.size) →
   Blk w5 p 143 [.slice B k0 d] ∧ Hid (Rd (w5.setCell ⟨p, 0, none⟩ (.slice A5 (k0 + 1) c5)) (some ⟨g, 0, none⟩) n (vb bs) ∧ Blk (w5.setCell ⟨p, 0, none⟩ (.slice A5 (k0 + 1) c5)) N0 144 (List.replicate 32 (Value.int .u8 0)) ∧ ∃ E', Took (RgSt p) E E' w0 (w5.setCell ⟨p, 0, none⟩ (.slice A5 (k0 + 1) c5)) (l ++ [bs]) ∧ ¬ E' N0)) := H_ fun A5 c5 w5 h1 h2 h3 => by
  have ho := k1.own hm.1 (fun _ _ h => h)
  obtain ⟨r1, r2, E', r3, r4⟩ := rtexts_push hh hk0 hn hT.cel k2 ho (hm.2.2 g rfl) h1 h2 h3
  have hs := k.size
  have hgl : g < w.heap.size := own_ltN hm.1
  have hN : ¬ E N0 := fun e => by have := hT.lt _ e; omega
  refine ⟨r1, H_ ⟨r2, ?_, E', r3, fun e => ?_⟩⟩
  ·have hz : Blk (w1.alloc (.cells #[.slice (some ⟨g, 0, none⟩) n c] 48)) N0 144 (List.replicate 32 (Value.int .u8 0)) := z1.alloc _
   have hp : N0 ≠ p := fun e => hN (e ▸ hh.inE)
   have hq : (Value.slice B k0 d).ownBlock ≠ some N0 := fun e => hN (hh.rowE _ (by rw [← hk0]; exact e))
   exact (((Keeps.refl (fun i => i = p) w5).setCell (p := ⟨p, 0, none⟩) (.inl rfl) _).blk ((Keeps.of_grown h2).blk hz hq) hp)
  ·have hz := z1.lt
   rcases r4 _ e with h | h | h
   ·exact hN h
   ·omega
   ·omega
 have HFIN : Hid (w0.heap.size ≤ N0) := H_ (by have := k.size; omega)
 clear hT hh hm hk0 k hn' hN0 k1 k2 z1
 go_wp2_with (first
  | (at_builtin; refine wpList_append_rd _ rfl (.tmp 9) (.tmp 11) 39 rfl 48 (.slice none 0 0) 24 Tryz.underlying39 infoRow rfl _ k0 vals rfl HOW.out (some ⟨w1.heap.size, 0, none⟩) 1 1 [.slice (some ⟨g, 0, none⟩) n c] rfl HRN.out (by intro u hu; rw [List.mem_singleton.1 hu]; rfl) (by simp only [maxLen]; omega) (by omega) ?_; intro A5 c5 w5 ho5 hg5 hb5; obtain ⟨hbx5, HP5⟩ := HPU.out A5 c5 w5 ho5 hg5 hb5; have cv5 := hbx5.cell 0; have fz5 := hbx5.frozen 0; clear hbx5 ho5 hg5 hb5)
  | (go_at_call 66; refine (HRO.out _ HP5.out.1).mono ?_; rintro e w6 ⟨rfl, hk6⟩; have HZ6 := H_ (hk6.blk HP5.out.2.1 fun h => h); have HK6 := H_ hk6; clear hk6)
  | ((with_reducible show wpList _ _ _ (⟨none, Op.store 144 _ _, _, _, _, _⟩ :: _) _ _); refine wpList_store_whole rfl 144 _ _ rfl DV rfl rfl HZ6.out (by rw [HDL.out]; simp) HIN.out HD1.out ?_))
 refine bodyPost_ret (results_blk rfl _ _ rfl (HZ6.out.setRow DV) Tryz.underlying144 rfl HIN.out) rfl ⟨rfl, ?_⟩
 obtain ⟨E', h1, h2⟩ := HP5.out.2.2
 refine ⟨E', (h1.stay (rgLasts p) HK6.out).more (rgLasts p) (setRow_keep _ _ _) fun i hi => ?_⟩
 subst hi
 exact ⟨HFIN.out, h2⟩
end Go.Proofs.YtplleficmkfniaaGreatDoor
namespace Go.Proofs.YtplleficmkfniaaGreatDoor
open Go Go.RowKit Go.Aff Go.Sha Go.Dig Go.Book
attribute [local go_sem] Oper.semAt_some
theorem infoRD (DV : List Value) (h : DV.length = 32) : (Tryz.prog.info? 144).map (·.size) = some DV.length := by rw [h]; kernel_rfl
theorem rdg_rng {w : World} {p : Nat} {ty : TypeId} {cs : List Value} (h : Blk w p ty cs) : w.rangeAt p 0 cs := fun j v hv => by rw [Nat.zero_add, h.cell]; exact hv
theorem rfin {p : Nat} {E E9 : Nat → Prop} {w w6 w9 : World} {L : List (List Int)} {P : Nat} {ty : TypeId} {cs : List Value} (h : Took (RgSt p) E E9 w6 w9 L) (k : Keeps (fun _ => False) w w6) (hb : Blk w6 P ty cs) (hE : ¬ E P) (hP : w.heap.size ≤ P) (vs : Array Value) : Took (RgSt p) E E9 w (w9.setRow P vs) L := by
 refine (Took.begin k h).more (rgLasts p) (setRow_keep _ _ _) fun i hi => ?_
 subst hi
 refine ⟨hP, fun he => ?_⟩
 rcases h.new _ he with h1 | h1
 ·exact hE h1
 ·have := hb.lt
  omega
theorem rhash_mine {E : Nat → Prop} {w w6 w7 : World} {l : List (List Int)} {p : Nat} (hT : Tkg (RgSt p) E w l) (hl : l.length ≤ 1099511627776) (k6 : Keeps (fun _ => False) w w6) {g n c : Nat} {bs : List Int} {DV : List Value} (hDV : DV = vb (hsh bs)) (hn : bs.length = n) (hb : n ≤ 1099511627776) (hm : Mine w6 w7 5 (some ⟨g, 0, none⟩) n c (vb bs)) (hbs : IsBytes bs) :
  Calls Tryz.prog 127 #[.pointer (some ⟨p, 0, none⟩), .slice (some ⟨g, 0, none⟩) n c] w7 fun e w' => e = .returned (.agg DV.toArray) ∧ ∃ E', Took (RgSt p) E E' w6 w' (l ++ [bs]) := by
 subst hDV
 exact rhash_any (hT.stay (rgLasts p) k6) hl hm.2.1 g n c bs hn hb hm hbs
theorem rgroup_any {p : Nat} {E : Nat → Prop} {w : World} {l : List (List Int)} (hT : Tkg (RgSt p) E w l) (hl : l.length ≤ 1099511627776) (sort : Int) (n : Nat) (hn : n < 9223372036854775808) (row : List Int) (hrl : row.length = 32) (hrb : IsBytes row) :
  Calls Tryz.prog 125 #[.pointer (some ⟨p, 0, none⟩), .int .i64 sort, .int .i64 n, .agg (vb row).toArray] w fun e w' => e = .returned (.agg (vb (grpD sort n row)).toArray) ∧ ∃ E', Took (RgSt p) E E' w w' (l ++ [grpT sort n row]) := by
 obtain ⟨tag, htag⟩ : ∃ tag : Int, tag = if sort = 6 then 111 else 108 := ⟨_, rfl⟩
 have htb : 0 ≤ tag ∧ tag < 256 := by rw [htag]; split <;> omega
 obtain ⟨X, hX⟩ : ∃ X, X = grpT sort n row := ⟨_, rfl⟩
 have hX2 : X = tag :: (eight n ++ row) := by rw [hX, htag]; rfl
 have hgd : grpD sort n row = hsh X := by rw [hX]; rfl
 rw [hgd, ← hX]
 have hXB : IsBytes X := by
  rw [hX2]
  intro x hx
  rcases List.mem_cons.1 hx with rfl | hx
  ·exact htb
  ·exact (List.mem_append.1 hx).elim (eight_bytes n x) (hrb x)
 obtain ⟨N0, hN0⟩ : ∃ N0, N0 = w.heap.size := ⟨_, rfl⟩
 obtain ⟨RV, hRV⟩ : ∃ RV, RV = vb row := ⟨_, rfl⟩
 have HRL : RV.length = 32 := by rw [hRV]; simp [vb, hrl]
 rw [← hRV]
 have HW2 : Hid (Keeps (fun _ => False) w ((w.alloc (.cells RV.toArray 144)).alloc (.cells (List.replicate 32 (Value.int .u8 0)).toArray 144)) ∧ Blk ((w.alloc (.cells RV.toArray 144)).alloc (.cells (List.replicate 32 (Value.int .u8 0)).toArray 144)) N0 144 RV ∧ Blk ((w.alloc (.cells RV.toArray 144)).alloc (.cells (List.replicate 32 (Value.int .u8 0)).toArray 144)) (N0 + 1) 144 (List.replicate 32 (Value.int .u8 0))) := H_ ⟨((Keeps.refl _ w).alloc _).alloc _, by rw [hN0]; exact (Blk.new _ _ _).alloc _, by
  have h := Blk.new (w.alloc (.cells RV.toArray 144)) 144 (List.replicate 32 (Value.int .u8 0))
  rwa [World.size_alloc, ← hN0] at h⟩
 obtain ⟨DV, hDV⟩ : ∃ DV, DV = vb (hsh X) := ⟨_, rfl⟩
 have HD1 : Hid (∀ u ∈ DV, u.oneCell' = true) := H_ (by rw [hDV]; exact vb_one _)
 have HDL : Hid (DV.length = 32) := H_ (by rw [hDV]; simp [vb, hsh_len])
 have HIN : Hid ((Tryz.prog.info? 144).map (·.size) = some DV.length) := H_ (infoRD DV HDL.out)
 have HIR : Hid ((Tryz.prog.info? 144).map (·.size) = some RV.length) := H_ (infoRD RV HRL)
 have HEI : Hid (∀ W, Calls Tryz.prog 129 #[.int .u64 n] W fun e w' => ∃ A c', e = .returned (.slice A 8 c') ∧ Hid (Mine W w' 5 A 8 c' (vb (eight n)))) := H_ fun W => reight_any n W (by omega)
 have HLI : Hid (∀ W, Calls Tryz.prog 179 #[.agg RV.toArray] W fun e w' => ∃ A c', e = .returned (.slice A 32 c') ∧ Hid (Mine W w' 5 A 32 c' (vb row))) := H_ fun W => by rw [hRV]; exact rlist_any W row hrl
 have HJO : Hid (∀ W A c B d, Rd W A 8 (vb (eight n)) → Rd W B 32 (vb row) → Calls Tryz.prog 128 #[.int .u8 tag, .slice A 8 c, .slice B 32 d] W fun e w' => ∃ g c', e = .returned (.slice (some ⟨g, 0, none⟩) 41 c') ∧ Hid (Mine W w' 5 (some ⟨g, 0, none⟩) 41 c' (vb X))) := H_ fun W A c B d h1 h2 => (rjoined_any W tag A 8 c (eight n) (eight_len n) h1 (by omega) B 32 d row hrl h2 (by omega)).mono fun e w' ⟨g, c', h3, h4⟩ => ⟨g, c', h3, H_ (by rw [hX2]; exact h4)⟩
 have HHA : Hid (∀ w6 w7 g c, Keeps (fun _ => False) w w6 → Mine w6 w7 5 (some ⟨g, 0, none⟩) 41 c (vb X) → Calls Tryz.prog 127 #[.pointer (some ⟨p, 0, none⟩), .slice (some ⟨g, 0, none⟩) 41 c] w7 fun e w' => e = .returned (.agg DV.toArray) ∧ ∃ E', Took (RgSt p) E E' w6 w' (l ++ [X])) := H_ fun w6 w7 g c h1 h2 => rhash_mine hT hl h1 hDV (by rw [hX2]; simp [eight_len, hrl]) (by omega) h2 hXB
 have HNE : Hid (¬ E (N0 + 1)) := H_ fun he => by have := hT.lt _ he; omega
 have HNN := H_ hN0
 have hnw : IntKind.u64.wrap (n : Int) = (n : Int) := IntWalk.u64_in _ (by omega)
 rw [← hDV]
 clear hT hrb hRV hDV hX hX2 hgd hrl htb hN0 hXB hl
 have HTA := H_ htag
 clear htag
 by_cases h6 : sort = 6
 all_goals
  go_enter Tryz.func125, Tryz.ntmps125
  go_upto_region 4 with fail
  refine gen_codeF (fun W => Keeps (fun _ => False) w W ∧ Blk W N0 144 RV ∧ Blk W (N0 + 1) 144 (List.replicate 32 (Value.int .u8 0))) HW2.out ?_
  rintro w2 ⟨k2, b2, z2⟩
  have hNN := HNN.out
  rw [← hNN]
  clear hNN
  have HK2 := H_ k2
  have HB2 := H_ (And.intro b2 z2)
  clear k2 b2 z2
  have HTT := HTA.out
  first | rw [if_pos h6] at HTT | rw [if_neg h6] at HTT
  subst HTT
  refine wp_region_tail (S := (fun V => Keeps (fun _ => False) w2 V)) 7 (by kernel_rfl) (Keeps.refl _ _).drew (fun h_ => ?_)
  refine tJ 0 12 ?_
  try simp only [pu]
  refine tJ 1 13 ?_
  try simp only [pu]
  refine tJ 2 14 ?_
  try simp only [pu]
  refine tJ 3 15 ?_
  try simp only [pu]
  refine tT [5, 6, 7] (i := 5) (oi := ⟨some 17, _, _, _, _, _⟩) (v := _) rfl (yieldsIf_load_mid (by rfl) _ _ rfl _ _ rfl RV _ (fun w' h => rdg_rng (h.blk HB2.out.1 fun h => h)) Tryz.underlying144 rfl HIR.out) h_ ?_
  try simp only [pu]
  refine wpAnyT_step (i := 4) (o := ⟨some 16, _, _, _, _, _⟩) (by kernel_rfl) rfl (fun K hK => ?_)
  go_simp
  refine (HEI.out _).mono ?_
  rintro e w4 ⟨A4, c4, rfl, HE4⟩
  have hS4 := h_.trans HE4.out.2.1 (fun _ _ h => h)
  refine hK.out _ _ hS4 (fun h_ => ?_)
  clear hK K
  try simp only [pu]
  refine wpAnyT_step (i := 6) (o := ⟨some 18, _, _, _, _, _⟩) (by kernel_rfl) rfl (fun K hK => ?_)
  go_simp
  refine (HLI.out _).mono ?_
  rintro e w6 ⟨A6, c6, rfl, HE6⟩
  have hS6 := h_.trans HE6.out.2.1 (fun _ _ h => h)
  refine hK.out _ _ hS6 (fun h_ => ?_)
  clear hK K
  try simp only [pu]
  refine wpAnyT_tail (i := 7) (o := ⟨some 19, _, _, _, _, _⟩) (by kernel_rfl) (by kernel_rfl) rfl (fun K hK => ?_)
  go_simp
  refine (HJO.out w6 A4 c4 A6 c6 ((Rd.of_own HE4.out.1).keep HE6.out.2.1 (no_out _ _)) (Rd.of_own HE6.out.1)).mono ?_
  rintro e w7 ⟨g7, c7, rfl, HM7⟩
  refine hK.out _ _ ?_
  clear hK K
  try simp only [pu]
  refine wpAnyT_tail (i := 8) (o := ⟨some 20, _, _, _, _, _⟩) (by kernel_rfl) (by kernel_rfl) rfl (fun K hK => ?_)
  go_simp
  refine (HHA.out w6 w7 g7 c7 (HK2.out.trans hS6 fun _ _ h => h) HM7.out).mono ?_
  rintro e w8 ⟨rfl, E8, hT8⟩
  have HT8 := H_ hT8; have HZ8 := H_ (hT8.keep.blk (hS6.blk HB2.out.2 fun h => h) HNE.out)
  refine hK.out _ _ ?_
  clear hK K
  try simp only [pu]
  refine wpAnyT_tail (i := 9) (o := ⟨none, _, _, _, _, _⟩) (by kernel_rfl) (by kernel_rfl) rfl (fun K hK => ?_)
  refine step_store_whole rfl 144 (.tmp 8) (.tmp 20) rfl DV rfl rfl HZ8.out (by rw [HDL.out]; simp) HIN.out HD1.out ?_
  refine hK.out _ _ ?_
  clear hK K
  try simp only [pu]
  refine wpAnyT_done (by kernel_rfl) ?_
  go_wp2
  refine bodyPost_ret (results_blk rfl _ _ rfl (HZ8.out.setRow DV) Tryz.underlying144 rfl HIN.out) rfl ⟨rfl, E8, ?_⟩
  exact rfin HT8.out (HK2.out.trans hS6 fun _ _ h => h) (hS6.blk HB2.out.2 fun h => h) HNE.out (by have := HNN.out; omega) _
theorem rmember_any {p : Nat} {E : Nat → Prop} {w : World} {l : List (List Int)} (hT : Tkg (RgSt p) E w l) (hl : l.length ≤ 1099511627776) (key : ByteArray) (hk : key.size ≤ 4194304) (d : List Int) (hrl : d.length = 32) (hrb : IsBytes d) :
  Calls Tryz.prog 124 #[.pointer (some ⟨p, 0, none⟩), .string key, .agg (vb d).toArray] w fun e w' => e = .returned (.agg (vb (memD key d)).toArray) ∧ ∃ E', Took (RgSt p) E E' w w' (l ++ [memT key d]) := by
 obtain ⟨X, hX⟩ : ∃ X, X = memT key d := ⟨_, rfl⟩
 have hX2 : X = 109 :: (Mac.rowF [Go.Json.sb key] ++ d) := by rw [hX]; rfl
 have hgd : memD key d = hsh X := by rw [hX]; rfl
 rw [hgd, ← hX]
 have hXB : IsBytes X := by
  rw [hX2]
  intro x hx
  rcases List.mem_cons.1 hx with rfl | hx
  ·omega
  ·exact (List.mem_append.1 hx).elim (rowF_bytes _ (sb_bytes _) x) (hrb x)
 obtain ⟨N0, hN0⟩ : ∃ N0, N0 = w.heap.size := ⟨_, rfl⟩
 obtain ⟨RV, hRV⟩ : ∃ RV, RV = vb d := ⟨_, rfl⟩
 have HRL : RV.length = 32 := by rw [hRV]; simp [vb, hrl]
 rw [← hRV]
 have HW2 : Hid (Keeps (fun _ => False) w ((w.alloc (.cells RV.toArray 144)).alloc (.cells (List.replicate 32 (Value.int .u8 0)).toArray 144)) ∧ Blk ((w.alloc (.cells RV.toArray 144)).alloc (.cells (List.replicate 32 (Value.int .u8 0)).toArray 144)) N0 144 RV ∧ Blk ((w.alloc (.cells RV.toArray 144)).alloc (.cells (List.replicate 32 (Value.int .u8 0)).toArray 144)) (N0 + 1) 144 (List.replicate 32 (Value.int .u8 0))) := H_ ⟨((Keeps.refl _ w).alloc _).alloc _, by rw [hN0]; exact (Blk.new _ _ _).alloc _, by
  have h := Blk.new (w.alloc (.cells RV.toArray 144)) 144 (List.replicate 32 (Value.int .u8 0))
  rwa [World.size_alloc, ← hN0] at h⟩
 obtain ⟨DV, hDV⟩ : ∃ DV, DV = vb (hsh X) := ⟨_, rfl⟩
 have HD1 : Hid (∀ u ∈ DV, u.oneCell' = true) := H_ (by rw [hDV]; exact vb_one _)
 have HDL : Hid (DV.length = 32) := H_ (by rw [hDV]; simp [vb, hsh_len])
 have HIN : Hid ((Tryz.prog.info? 144).map (·.size) = some DV.length) := H_ (infoRD DV HDL.out)
 have HIR : Hid ((Tryz.prog.info? 144).map (·.size) = some RV.length) := H_ (infoRD RV HRL)
 obtain ⟨N, hN⟩ : ∃ N, N = (Mac.rowF [Go.Json.sb key]).length := ⟨_, rfl⟩
 have hNb : N ≤ 16777216 ∧ 0 < N := by
  have h1 := Mac.rowF_le [Go.Json.sb key]
  simp only [List.flatten_cons, List.flatten_nil, List.append_nil, List.length_cons, List.length_nil, Go.Json.sb_len] at h1
  refine ⟨by omega, ?_⟩
  rw [hN, rowF_one]
  simp only [List.length_append, List.length_cons]
  omega
 have hcv : ∀ W, (convert 9 48 (.string key)).run Tryz.prog W = .ok (.slice (some ⟨W.heap.size, 0, none⟩) key.size (grownCap W key.size 0 5)) (Lib.bytesWorld W 5 key) := fun W => Lib.run_convert_string_bytes W _ _ 5 key Tryz.underlying9 Tryz.underlying48 Tryz.underlying5
 have HRO : Hid (∀ W g c, Keeps (fun _ => False) w W → Rd W (some ⟨g, 0, none⟩) key.size (vb (Go.Json.sb key)) → key.size ≤ c → Calls Tryz.prog 178 #[.slice (some ⟨W.heap.size, 0, none⟩) 1 1] (W.alloc (.cells #[.slice (some ⟨g, 0, none⟩) key.size c] 48)) fun e w' => ∃ A' c', e = .returned (.slice A' N c') ∧ Hid (Mine (W.alloc (.cells #[.slice (some ⟨g, 0, none⟩) key.size c] 48)) w' 5 A' N c' (vb (Mac.rowF [Go.Json.sb key])))) := H_ fun W g c hW hr hc => by
  have hp := parts_one (fun _ => False) W 48 (some ⟨g, 0, none⟩) key.size c (Go.Json.sb key) (fun _ h => h.elim) (Go.Json.sb_len _) hr (no_out _ _) (sb_bytes _) hc (by omega)
  exact (rrow_any _ _ 1 1 [Go.Json.sb key] N rfl hp (by omega) hN.symm hNb.1).mono fun e w' ⟨A', c', he, hm⟩ => ⟨A', c', he, H_ hm⟩
 have HLI : Hid (∀ W, Calls Tryz.prog 179 #[.agg RV.toArray] W fun e w' => ∃ A c', e = .returned (.slice A 32 c') ∧ Hid (Mine W w' 5 A 32 c' (vb d))) := H_ fun W => by rw [hRV]; exact rlist_any W d hrl
 obtain ⟨M, hM⟩ : ∃ M, M = 1 + N + 32 := ⟨_, rfl⟩
 have HJO : Hid (∀ W A c B d', Rd W A N (vb (Mac.rowF [Go.Json.sb key])) → Rd W B 32 (vb d) → Calls Tryz.prog 128 #[.int .u8 109, .slice A N c, .slice B 32 d'] W fun e w' => ∃ g c', e = .returned (.slice (some ⟨g, 0, none⟩) M c') ∧ Hid (Mine W w' 5 (some ⟨g, 0, none⟩) M c' (vb X))) := H_ fun W A c B d' h1 h2 => (rjoined_any W 109 A N c _ hN.symm h1 (by omega) B 32 d' d hrl h2 (by omega)).mono fun e w' ⟨g, c', h3, h4⟩ => ⟨g, c', by rw [hM]; exact h3, H_ (by rw [hX2, hM]; exact h4)⟩
 have HHA : Hid (∀ w6 w7 g c, Keeps (fun _ => False) w w6 → Mine w6 w7 5 (some ⟨g, 0, none⟩) M c (vb X) → Calls Tryz.prog 127 #[.pointer (some ⟨p, 0, none⟩), .slice (some ⟨g, 0, none⟩) M c] w7 fun e w' => e = .returned (.agg DV.toArray) ∧ ∃ E', Took (RgSt p) E E' w6 w' (l ++ [X])) := H_ fun w6 w7 g c h1 h2 => rhash_mine hT hl h1 hDV (by rw [hX2, hM]; simp only [List.length_cons, List.length_append, hrl, ← hN]; omega) (by omega) h2 hXB
 have HNE : Hid (¬ E (N0 + 1)) := H_ fun he => by have := hT.lt _ he; omega
 have HNN := H_ hN0
 have HKB := H_ (bytesW_rd (e := 5) (s := key))
 have HGC := H_ fun W => grownCap_ge W key.size 0 5
 rw [← hDV]
 clear hT hrb hRV hDV hX hX2 hgd hrl hN0 hN hNb hk hXB hM hl
 go_enter Tryz.func124, Tryz.ntmps124
 go_upto_region 1 with fail
 refine gen_codeF (fun W => Keeps (fun _ => False) w W ∧ Blk W N0 144 RV ∧ Blk W (N0 + 1) 144 (List.replicate 32 (Value.int .u8 0))) HW2.out ?_
 rintro w2 ⟨k2, b2, z2⟩
 have hNN := HNN.out
 rw [← hNN]
 clear hNN
 have HK2 := H_ k2
 have HB2 := H_ (And.intro b2 z2)
 clear k2 b2 z2
 refine wp_region_tail (S := (fun V => Keeps (fun _ => False) w2 V)) 7 (by kernel_rfl) (Keeps.refl _ _).drew (fun h_ => ?_)
 refine tJ 0 7 ?_
 try simp only [pu]
 refine tJ 1 8 ?_
 try simp only [pu]
 refine tT [5, 6, 7] (i := 5) (oi := ⟨some 12, _, _, _, _, _⟩) (v := _) rfl (yieldsIf_load_mid (by rfl) _ _ rfl _ _ rfl RV _ (fun w' h => rdg_rng (h.blk HB2.out.1 fun h => h)) Tryz.underlying144 rfl HIR.out) h_ ?_
 try simp only [pu]
 refine wpAnyT_step (i := 2) (o := ⟨some 9, _, _, _, _, _⟩) (by kernel_rfl) rfl (fun K hK => ?_)
 go_simp
 have hS2 := h_.trans (bytesW_keep w2.drew 5 key) (fun _ _ h => h)
 refine hK.out _ _ hS2 (fun h_ => ?_)
 clear hK K
 try simp only [pu]
 refine wpAnyT_step (i := 3) (o := ⟨some 10, _, _, _, _, _⟩) (by kernel_rfl) rfl (fun K hK => ?_)
 go_simp
 refine hK.out _ _ (h_.alloc _) (fun h_ => ?_)
 clear hK K
 try simp only [pu]
 refine wpAnyT_step (i := 4) (o := ⟨some 11, _, _, _, _, _⟩) (by kernel_rfl) rfl (fun K hK => ?_)
 go_simp
 refine (HRO.out (Lib.bytesWorld w2.drew 5 key) _ _ (HK2.out.trans hS2 fun _ _ h => h) (HKB.out w2.drew) (HGC.out _)).mono ?_
 rintro e w4 ⟨A4, c4, rfl, HM4⟩
 have hS4 := h_.trans HM4.out.2.1 (fun _ _ h => h)
 refine hK.out _ _ hS4 (fun h_ => ?_)
 clear hK K
 try simp only [pu]
 refine wpAnyT_step (i := 6) (o := ⟨some 13, _, _, _, _, _⟩) (by kernel_rfl) rfl (fun K hK => ?_)
 go_simp
 refine (HLI.out _).mono ?_
 rintro e w6 ⟨A6, c6, rfl, HE6⟩
 have hS6 := h_.trans HE6.out.2.1 (fun _ _ h => h)
 refine hK.out _ _ hS6 (fun h_ => ?_)
 clear hK K
 try simp only [pu]
 refine wpAnyT_tail (i := 7) (o := ⟨some 14, _, _, _, _, _⟩) (by kernel_rfl) (by kernel_rfl) rfl (fun K hK => ?_)
 go_simp
 refine (HJO.out w6 A4 c4 A6 c6 ((Rd.of_own HM4.out.1).keep HE6.out.2.1 (no_out _ _)) (Rd.of_own HE6.out.1)).mono ?_
 rintro e w7 ⟨g7, c7, rfl, HM7⟩
 refine hK.out _ _ ?_
 clear hK K
 try simp only [pu]
 refine wpAnyT_tail (i := 8) (o := ⟨some 15, _, _, _, _, _⟩) (by kernel_rfl) (by kernel_rfl) rfl (fun K hK => ?_)
 go_simp
 refine (HHA.out w6 w7 g7 c7 (HK2.out.trans hS6 fun _ _ h => h) HM7.out).mono ?_
 rintro e w8 ⟨rfl, E8, hT8⟩
 have HT8 := H_ hT8; have HZ8 := H_ (hT8.keep.blk (hS6.blk HB2.out.2 fun h => h) HNE.out)
 refine hK.out _ _ ?_
 clear hK K
 try simp only [pu]
 refine wpAnyT_tail (i := 9) (o := ⟨none, _, _, _, _, _⟩) (by kernel_rfl) (by kernel_rfl) rfl (fun K hK => ?_)
 refine step_store_whole rfl 144 (.tmp 6) (.tmp 15) rfl DV rfl rfl HZ8.out (by rw [HDL.out]; simp) HIN.out HD1.out ?_
 refine hK.out _ _ ?_
 clear hK K
 try simp only [pu]
 refine wpAnyT_done (by kernel_rfl) ?_
 go_wp2
 refine bodyPost_ret (results_blk rfl _ _ rfl (HZ8.out.setRow DV) Tryz.underlying144 rfl HIN.out) rfl ⟨rfl, E8, ?_⟩
 exact rfin HT8.out (HK2.out.trans hS6 fun _ _ h => h) (hS6.blk HB2.out.2 fun h => h) HNE.out (by have := HNN.out; omega) _
structure RRowIn (p : Nat) (E : Nat → Prop) (w : World) (l : List (List Int)) (A : Option Addr) (n c : Nat) (ds : List (List Int)) : Prop where
 st : Tkg (RgSt p) E w l
 room : l.length + 2 * n + 1 ≤ 1099511627776
 rd : RdD w A n ds
 out : Out E A n
 cap : n ≤ c
 few : n ≤ 1099511627776
def RRowPost (p : Nat) (E : Nat → Prop) (w : World) (l : List (List Int)) (ds : List (List Int)) (e : Ending) (w' : World) : Prop := e = .returned (.agg (vb (rowD ds)).toArray) ∧ ∃ E', Took (RgSt p) E E' w w' (l ++ allTx ds)
theorem rhash_byte {p : Nat} {E : Nat → Prop} {w w1 : World} {l : List (List Int)} (hT : Tkg (RgSt p) E w l) (hl : l.length ≤ 1099511627776) (k : Keeps (fun _ => False) w w1) (b : Int) (h0 : 0 ≤ b ∧ b < 256) {DV : List Value} (hDV : DV = vb (hsh [b])) :
  Calls Tryz.prog 127 #[.pointer (some ⟨p, 0, none⟩), .slice (some ⟨w1.heap.size, 0, none⟩) 1 1] (w1.alloc (.cells #[.int .u8 b] 5)) fun e w' => e = .returned (.agg DV.toArray) ∧ ∃ E', Took (RgSt p) E E' w1 w' (l ++ [[b]]) :=
 rhash_mine hT hl k hDV rfl (by omega) (mine_byte w1 b) (fun x hx => by rw [List.mem_singleton.1 hx]; exact h0)
theorem rrow_none {p : Nat} {E : Nat → Prop} {w : World} {l : List (List Int)} {A : Option Addr} {c : Nat} {ds : List (List Int)} (h : RRowIn p E w l A 0 c ds) :
  Calls Tryz.prog 130 #[.pointer (some ⟨p, 0, none⟩), .slice A 0 c] w (RRowPost p E w l ds) := by
 have h0 : ds = [] := List.eq_nil_of_length_eq_zero h.rd.1
 subst h0
 unfold RRowPost
 rw [rowD_nil, show allTx [] = [[101]] from if_pos rfl]
 obtain ⟨N0, hN0⟩ : ∃ N0, N0 = w.heap.size := ⟨_, rfl⟩
 obtain ⟨DV, hDV⟩ : ∃ DV, DV = vb (hsh [101]) := ⟨_, rfl⟩
 have HD1 : Hid (∀ u ∈ DV, u.oneCell' = true) := H_ (by rw [hDV]; exact vb_one _)
 have HDL : Hid (DV.length = 32) := H_ (by rw [hDV]; simp [vb, hsh_len])
 have HIN : Hid ((Tryz.prog.info? 144).map (·.size) = some DV.length) := H_ (infoRD DV HDL.out)
 have HW1 : Hid (Keeps (fun _ => False) w (w.alloc (.cells (List.replicate 32 (Value.int .u8 0)).toArray 144)) ∧ Blk (w.alloc (.cells (List.replicate 32 (Value.int .u8 0)).toArray 144)) N0 144 (List.replicate 32 (Value.int .u8 0))) := H_ ⟨(Keeps.refl _ w).alloc _, by rw [hN0]; exact Blk.new _ _ _⟩
 have HNE : Hid (¬ E N0) := H_ fun he => by have := h.st.lt _ he; omega
 have HNN := H_ hN0
 have HH := H_ h
 have HDV := H_ hDV
 rw [← hDV]
 clear h hDV hN0
 go_enter Tryz.func130, Tryz.ntmps130
 go_upto_region 3 with fail
 refine gen_codeF (fun W => Keeps (fun _ => False) w W ∧ Blk W N0 144 (List.replicate 32 (Value.int .u8 0))) HW1.out ?_
 rintro w1 ⟨k1, z1⟩
 have hNN := HNN.out
 rw [← hNN]
 clear hNN
 have HK1 := H_ k1
 have HZ1 := H_ z1
 have HHA := H_ (rhash_byte HH.out.st (by have := HH.out.room; omega) k1 101 (by omega) HDV.out)
 clear k1 z1
 go_wp2_with (first
  | (go_at_call 127; refine HHA.out.mono ?_; rintro e w6 ⟨rfl, E6, hT6⟩; have HT6 := H_ hT6; have HZ6 := H_ (hT6.keep.blk HZ1.out HNE.out); clear hT6)
  | ((with_reducible show wpList _ _ _ (⟨none, Op.store 144 _ _, _, _, _, _⟩ :: _) _ _); refine wpList_store_whole rfl 144 _ _ rfl DV rfl rfl HZ6.out (by rw [HDL.out]; simp) HIN.out HD1.out ?_))
 refine bodyPost_ret (results_blk rfl _ _ rfl (HZ6.out.setRow DV) Tryz.underlying144 rfl HIN.out) rfl ⟨rfl, E6, ?_⟩
 exact rfin HT6.out HK1.out HZ1.out HNE.out (by have := HNN.out; omega) _
theorem rrow_one {p : Nat} {E : Nat → Prop} {w : World} {l : List (List Int)} {A : Option Addr} {c : Nat} {d : List Int} (h : RRowIn p E w l A 1 c [d]) :
  Calls Tryz.prog 130 #[.pointer (some ⟨p, 0, none⟩), .slice A 1 c] w (RRowPost p E w l [d]) := by
 unfold RRowPost
 rw [rowD_one, allTx_ne (by simp), rowTx_one]
 obtain ⟨g, o, hA, hr, hdg⟩ := h.rd.first
 subst hA
 obtain ⟨X, hX⟩ : ∃ X, X = leafT d := ⟨_, rfl⟩
 rw [← hX]
 have hX2 : X = 0 :: (d ++ []) := by rw [hX, List.append_nil]; rfl
 have hXB : IsBytes X := by
  rw [hX]
  intro x hx
  rcases List.mem_cons.1 hx with rfl | hx
  ·omega
  ·exact hdg.2 x hx
 have hXl : X.length = 33 := by rw [hX2]; simp [hdg.1]
 obtain ⟨N0, hN0⟩ : ∃ N0, N0 = w.heap.size := ⟨_, rfl⟩
 obtain ⟨RV, hRV⟩ : ∃ RV, RV = vb d := ⟨_, rfl⟩
 have hrl : RV.length = 32 := by rw [hRV]; simp [vb, hdg.1]
 have HRL := H_ hrl
 obtain ⟨DV, hDV⟩ : ∃ DV, DV = vb (hsh X) := ⟨_, rfl⟩
 have HD1 : Hid (∀ u ∈ DV, u.oneCell' = true) := H_ (by rw [hDV]; exact vb_one _)
 have HDL : Hid (DV.length = 32) := H_ (by rw [hDV]; simp [vb, hsh_len])
 have HIN : Hid ((Tryz.prog.info? 144).map (·.size) = some DV.length) := H_ (infoRD DV HDL.out)
 have HIR : Hid ((Tryz.prog.info? 144).map (·.size) = some RV.length) := H_ (infoRD RV HRL.out)
 have HRG : Hid (∀ W, Keeps (fun _ => False) w W → Lies W g o RV) := H_ fun W hW => by
  obtain ⟨g', o', e', hl'⟩ := (hr.keep hW (no_out _ _)).2 (by omega)
  injection e' with e'
  injection e' with e1 e2
  subst e1 e2
  rw [hRV]
  intro j hj
  rw [hl' j (by simpa [vb, hdg.1] using hj)]
 have HLI : Hid (∀ W, Calls Tryz.prog 179 #[.agg RV.toArray] W fun e w' => ∃ A c', e = .returned (.slice A 32 c') ∧ Hid (Mine W w' 5 A 32 c' (vb d))) := H_ fun W => by rw [hRV]; exact rlist_any W d hdg.1
 have HJO : Hid (∀ W A c, Rd W A 32 (vb d) → Calls Tryz.prog 128 #[.int .u8 0, .slice A 32 c, .slice none 0 0] W fun e w' => ∃ g c', e = .returned (.slice (some ⟨g, 0, none⟩) 33 c') ∧ Hid (Mine W w' 5 (some ⟨g, 0, none⟩) 33 c' (vb X))) := H_ fun W A c h1 => (rjoined_any W 0 A 32 c d hdg.1 h1 (by omega) none 0 0 [] rfl (Rd.nil _ _) (by omega)).mono fun e w' ⟨g, c', h3, h4⟩ => ⟨g, c', h3, H_ (by rw [hX2]; exact h4)⟩
 have HHA : Hid (∀ w6 w7 g c, Keeps (fun _ => False) w w6 → Mine w6 w7 5 (some ⟨g, 0, none⟩) 33 c (vb X) → Calls Tryz.prog 127 #[.pointer (some ⟨p, 0, none⟩), .slice (some ⟨g, 0, none⟩) 33 c] w7 fun e w' => e = .returned (.agg DV.toArray) ∧ ∃ E', Took (RgSt p) E E' w6 w' (l ++ [X])) := H_ fun w6 w7 g c h1 h2 => rhash_mine h.st (by have := h.room; omega) h1 hDV hXl (by omega) h2 hXB
 have HW1 : Hid (Keeps (fun _ => False) w (w.alloc (.cells (List.replicate 32 (Value.int .u8 0)).toArray 144)) ∧ Blk (w.alloc (.cells (List.replicate 32 (Value.int .u8 0)).toArray 144)) N0 144 (List.replicate 32 (Value.int .u8 0))) := H_ ⟨(Keeps.refl _ w).alloc _, by rw [hN0]; exact Blk.new _ _ _⟩
 have HNE : Hid (¬ E N0) := H_ fun he => by have := h.st.lt _ he; omega
 have HNN := H_ hN0
 rw [← hDV]
 clear h hDV hN0 hr hdg hX hX2 hXB hXl hRV hrl
 go_enter Tryz.func130, Tryz.ntmps130
 go_upto_region 5 with fail
 refine gen_codeF (fun W => Keeps (fun _ => False) w W ∧ Blk W N0 144 (List.replicate 32 (Value.int .u8 0))) HW1.out ?_
 rintro w1 ⟨k1, z1⟩
 have hNN := HNN.out
 rw [← hNN]
 clear hNN
 have HK1 := H_ k1
 have HZ1 := H_ z1
 clear k1 z1
 go_wp2_with (first
  | ((with_reducible show wpList _ _ _ (⟨some 20, Op.load 144 _, _, _, _, _⟩ :: _) _ _); refine wpList_load_lies rfl 144 _ rfl _ RV _ rfl (HRG.out _ HK1.out) Tryz.underlying144 rfl HIR.out ?_)
  | (go_at_call 179; refine (HLI.out _).mono ?_; rintro e w3 ⟨A3, c3, rfl, HL3⟩; have HK3 := H_ (HK1.out.trans HL3.out.2.1 fun _ _ h => h))
  | (go_at_call 128; refine (HJO.out _ A3 c3 (Rd.of_own HL3.out.1)).mono ?_; rintro e w4 ⟨g4, c4, rfl, HM4⟩)
  | (go_at_call 127; refine (HHA.out w3 w4 g4 c4 HK3.out HM4.out).mono ?_; rintro e w6 ⟨rfl, E6, hT6⟩; have HT6 := H_ hT6; have HZ3 := H_ (HL3.out.2.1.blk HZ1.out fun h => h); have HZ6 := H_ (hT6.keep.blk HZ3.out HNE.out); clear hT6)
  | ((with_reducible show wpList _ _ _ (⟨none, Op.store 144 _ _, _, _, _, _⟩ :: _) _ _); refine wpList_store_whole rfl 144 _ _ rfl DV rfl rfl HZ6.out (by rw [HDL.out]; simp) HIN.out HD1.out ?_))
 refine bodyPost_ret (results_blk rfl _ _ rfl (HZ6.out.setRow DV) Tryz.underlying144 rfl HIN.out) rfl ⟨rfl, E6, ?_⟩
 exact rfin HT6.out HK3.out HZ3.out HNE.out (by have := HNN.out; omega) _
theorem rrow_more {p : Nat} (n : Nat) (ih : ∀ m, m < n → ∀ (E : Nat → Prop) (w : World) (l : List (List Int)) (A : Option Addr) (c : Nat) (ds : List (List Int)), RRowIn p E w l A m c ds → Calls Tryz.prog 130 #[.pointer (some ⟨p, 0, none⟩), .slice A m c] w (RRowPost p E w l ds))
  (h2 : 2 ≤ n) {E : Nat → Prop} {w : World} {l : List (List Int)} {A : Option Addr} {c : Nat} {ds : List (List Int)} (h : RRowIn p E w l A n c ds) :
  Calls Tryz.prog 130 #[.pointer (some ⟨p, 0, none⟩), .slice A n c] w (RRowPost p E w l ds) := by
 have hdl : ds.length = n := h.rd.1
 have hs0 := spl_pos n
 have hs1 := spl_lt h2
 unfold RRowPost
 rw [rowD_two (by omega), allTx_ne (by rintro rfl; simp at hdl; omega), rowTx_two (by omega), hdl]
 obtain ⟨k, hk⟩ : ∃ k, k = spl n := ⟨_, rfl⟩
 rw [← hk] at hs0 hs1 ⊢
 obtain ⟨DA, hDA⟩ : ∃ DA, DA = rowD (ds.take k) := ⟨_, rfl⟩
 obtain ⟨DB, hDB⟩ : ∃ DB, DB = rowD (ds.drop k) := ⟨_, rfl⟩
 obtain ⟨LA, hLA⟩ : ∃ LA, LA = rowTx (ds.take k) := ⟨_, rfl⟩
 obtain ⟨LB, hLB⟩ : ∃ LB, LB = rowTx (ds.drop k) := ⟨_, rfl⟩
 have hea : allTx (ds.take k) = LA := by rw [hLA]; exact allTx_ne (by intro e; have := congrArg List.length e; rw [List.length_take, hdl] at this; simp at this; omega)
 have heb : allTx (ds.drop k) = LB := by rw [hLB]; exact allTx_ne (by intro e; have := congrArg List.length e; rw [List.length_drop, hdl] at this; simp at this; omega)
 have HDA : Hid (DA.length = 32 ∧ IsBytes DA) := H_ (by rw [hDA]; exact ⟨rowD_len _, rowD_bytes _⟩)
 have HDB : Hid (DB.length = 32 ∧ IsBytes DB) := H_ (by rw [hDB]; exact ⟨rowD_len _, rowD_bytes _⟩)
 have hla : LA.length ≤ 2 * k - 1 := by rw [hLA]; exact (rowTx_len k _ (by rw [List.length_take, hdl]; omega)).2 (by omega)
 have hlb : LB.length ≤ 2 * (n - k) - 1 := by rw [hLB]; exact (rowTx_len (n - k) _ (by rw [List.length_drop, hdl])).2 (by omega)
 rw [← hDA, ← hDB, ← hLA, ← hLB]
 obtain ⟨X, hX⟩ : ∃ X, X = nodeT DA DB := ⟨_, rfl⟩
 have hX2 : X = 1 :: (DA ++ DB) := by rw [hX]; rfl
 have hpd : pairD DA DB = hsh X := by rw [hX]; rfl
 have hXB : IsBytes X := by
  rw [hX2]
  intro x hx
  rcases List.mem_cons.1 hx with rfl | hx
  ·omega
  ·exact (List.mem_append.1 hx).elim (HDA.out.2 x) (HDB.out.2 x)
 have hXl : X.length = 65 := by rw [hX2]; simp [HDA.out.1, HDB.out.1]
 rw [hpd, ← hX, ← List.append_assoc, ← List.append_assoc]
 obtain ⟨DV, hDV⟩ : ∃ DV, DV = vb (hsh X) := ⟨_, rfl⟩
 have HD1 : Hid (∀ u ∈ DV, u.oneCell' = true) := H_ (by rw [hDV]; exact vb_one _)
 have HDL : Hid (DV.length = 32) := H_ (by rw [hDV]; simp [vb, hsh_len])
 have HIN : Hid ((Tryz.prog.info? 144).map (·.size) = some DV.length) := H_ (infoRD DV HDL.out)
 obtain ⟨AV, hAV⟩ : ∃ AV, AV = vb DA := ⟨_, rfl⟩
 obtain ⟨BV, hBV⟩ : ∃ BV, BV = vb DB := ⟨_, rfl⟩
 have HAL : Hid (AV.length = 32) := H_ (by rw [hAV, vb_length]; exact HDA.out.1)
 have HBL : Hid (BV.length = 32) := H_ (by rw [hBV, vb_length]; exact HDB.out.1)
 have HA1 : Hid (∀ u ∈ AV, u.oneCell' = true) := H_ (by rw [hAV]; exact vb_one _)
 have HB1 : Hid (∀ u ∈ BV, u.oneCell' = true) := H_ (by rw [hBV]; exact vb_one _)
 have HAI : Hid ((Tryz.prog.info? 144).map (·.size) = some AV.length) := H_ (infoRD AV HAL.out)
 have HBI : Hid ((Tryz.prog.info? 144).map (·.size) = some BV.length) := H_ (infoRD BV HBL.out)
 have hcu1 := fun W => cutD_h (P := Tryz.prog) (T := 147) (e := 144) Tryz.underlying147 (by kernel_rfl) A n c k (k : Int) rfl (by have := h.cap; omega) W
 have hcu2 := fun W => cutD_l (P := Tryz.prog) (T := 147) (e := 144) Tryz.underlying147 (by kernel_rfl) A n c k (k : Int) rfl (by omega) W
 have HC1 : Hid (∀ w1, Keeps (fun _ => False) w w1 → Calls Tryz.prog 130 #[.pointer (some ⟨p, 0, none⟩), .slice (cutD A c 0) k c] w1 fun e w' => e = .returned (.agg AV.toArray) ∧ ∃ E', Took (RgSt p) E E' w1 w' (l ++ LA)) := H_ fun w1 k1 => by
  have hr1 : RdD w1 (cutD A c 0) k (ds.take k) := by
   have := (h.rd.keep k1 (no_out _ _)).take (k := k) (by omega)
   have := this.cut (k := 0) (c := c) (by omega) (by have := h.cap; omega)
   simpa using this
  have ho1 : Out E (cutD A c 0) k := by
   have := (h.out.cutD (k := 0) (c := c) (by omega))
   exact fun hn => this (by omega)
  have := ih k hs1 E w1 l (cutD A c 0) c (ds.take k) ⟨h.st.stay (rgLasts p) k1, by have := h.room; omega, hr1, ho1, by have := h.cap; omega, by have := h.few; omega⟩
  unfold RRowPost at this
  rwa [← hDA, hea, ← hAV] at this
 have HC2 : Hid (∀ w1 w2 w3 E1, Keeps (fun _ => False) w w1 → Took (RgSt p) E E1 w1 w2 (l ++ LA) → Keeps (fun _ => False) w2 w3 → Calls Tryz.prog 130 #[.pointer (some ⟨p, 0, none⟩), .slice (cutD A c k) (n - k) (c - k)] w3 fun e w' => e = .returned (.agg BV.toArray) ∧ ∃ E', Took (RgSt p) E1 E' w3 w' (l ++ LA ++ LB)) := H_ fun w1 w2 w3 E1 k1 ht k3 => by
  have hst := ((h.st.stay (rgLasts p) k1).next ht).stay (rgLasts p) k3
  have hr1 : RdD w3 (cutD A c k) (n - k) (ds.drop k) := (((h.rd.keep k1 (no_out _ _)).keep ht.keep h.out).keep k3 (no_out _ _)).cut (by omega) h.cap
  have ho1 : Out E1 (cutD A c k) (n - k) := by
   have h3 : Out E1 A n := fun hn ad e he => by
    obtain ⟨_, _, e4, hlt⟩ := h.rd.2.2.lt (by omega)
    rw [e] at e4
    injection e4 with e4
    subst e4
    exact (ht.new _ he).elim (h.out hn _ e) fun h5 => by have := k1.size; have : _ < w.heap.size := hlt; simp only at h5; omega
   exact h3.cutD (by omega)
  have := ih (n - k) (by omega) E1 w3 (l ++ LA) (cutD A c k) (c - k) (ds.drop k) ⟨hst, by rw [List.length_append]; have := h.room; omega, hr1, ho1, by have := h.cap; omega, by have := h.few; omega⟩
  unfold RRowPost at this
  rwa [← hDB, heb, ← hBV] at this
 have HHL : Hid (∀ W, Calls Tryz.prog 154 #[.int .i64 n] W fun e w' => e = .returned (.int .i64 (k : Nat)) ∧ w' = W) := H_ fun W => by rw [hk]; exact rhalf_any n W h2 (by have := h.few; omega)
 have HLA : Hid (∀ W, Calls Tryz.prog 179 #[.agg AV.toArray] W fun e w' => ∃ A c', e = .returned (.slice A 32 c') ∧ Hid (Mine W w' 5 A 32 c' (vb DA))) := H_ fun W => by rw [hAV]; exact rlist_any W DA HDA.out.1
 have HLB : Hid (∀ W, Calls Tryz.prog 179 #[.agg BV.toArray] W fun e w' => ∃ A c', e = .returned (.slice A 32 c') ∧ Hid (Mine W w' 5 A 32 c' (vb DB))) := H_ fun W => by rw [hBV]; exact rlist_any W DB HDB.out.1
 have HJO : Hid (∀ W A c B d, Rd W A 32 (vb DA) → Rd W B 32 (vb DB) → Calls Tryz.prog 128 #[.int .u8 1, .slice A 32 c, .slice B 32 d] W fun e w' => ∃ g c', e = .returned (.slice (some ⟨g, 0, none⟩) 65 c') ∧ Hid (Mine W w' 5 (some ⟨g, 0, none⟩) 65 c' (vb X))) := H_ fun W A c B d h1 h2 => (rjoined_any W 1 A 32 c DA HDA.out.1 h1 (by omega) B 32 d DB HDB.out.1 h2 (by omega)).mono fun e w' ⟨g, c', h3, h4⟩ => ⟨g, c', h3, H_ (by rw [hX2]; exact h4)⟩
 have HHA : Hid (∀ E2 w5 w6 w7 g c, Tkg (RgSt p) E2 w5 (l ++ LA ++ LB) → Keeps (fun _ => False) w5 w6 → Mine w6 w7 5 (some ⟨g, 0, none⟩) 65 c (vb X) → Calls Tryz.prog 127 #[.pointer (some ⟨p, 0, none⟩), .slice (some ⟨g, 0, none⟩) 65 c] w7 fun e w' => e = .returned (.agg DV.toArray) ∧ ∃ E', Took (RgSt p) E2 E' w6 w' (l ++ LA ++ LB ++ [X])) := H_ fun E2 w5 w6 w7 g c h0 h1 h2 => rhash_mine h0 (by rw [List.length_append, List.length_append]; have := h.room; omega) h1 hDV hXl (by omega) h2 hXB
 have hn0 : ((n : Int) == 0) = false := by simp; omega
 have hn1 : ((n : Int) == 1) = false := by simp; omega
 obtain ⟨N0, hN0⟩ : ∃ N0, N0 = w.heap.size := ⟨_, rfl⟩
 have HNE : Hid (∀ i, N0 ≤ i → ¬ E i) := H_ fun i hi he => by have := h.st.lt _ he; omega
 have HW1 : Hid (Keeps (fun _ => False) w (w.alloc (.cells (List.replicate 32 (Value.int .u8 0)).toArray 144)) ∧ Blk (w.alloc (.cells (List.replicate 32 (Value.int .u8 0)).toArray 144)) N0 144 (List.replicate 32 (Value.int .u8 0))) := H_ ⟨(Keeps.refl _ w).alloc _, by rw [hN0]; exact Blk.new _ _ _⟩
 have HNN := H_ hN0
 have HST := H_ h.st
 rw [← hDV]
 clear h hX hX2 hXB hXl hDV hN0 hla hlb hpd hDA hDB hLA hLB hdl ih hk hea heb hAV hBV
 go_enter Tryz.func130, Tryz.ntmps130
 go_upto_region 6 with fail
 refine gen_codeF (fun W => Keeps (fun _ => False) w W ∧ Blk W N0 144 (List.replicate 32 (Value.int .u8 0))) HW1.out ?_
 rintro w1 ⟨k1, z1⟩
 have hNN := HNN.out
 rw [← hNN]
 clear hNN
 have HK1 := H_ k1
 have HZ1 := H_ z1
 clear k1 z1
 go_upto_region 7 with (first
  | (go_at_call 154; refine (HHL.out _).mono ?_; rintro e w9 ⟨rfl, hw9⟩; have hw8 := hw9.symm; clear hw9; subst hw8)
  | (go_at_call 130; refine (HC1.out _ HK1.out).mono ?_; rintro e w3 ⟨rfl, E3, hT3⟩; have HT3 := H_ hT3; have HZ3 := H_ (Blk.new w3 144 (List.replicate 32 (Value.int .u8 0))); clear hT3)
  | ((with_reducible show wpList _ _ _ (⟨none, Op.store 144 _ _, _, _, _, _⟩ :: _) _ _); refine wpList_store_whole rfl 144 _ _ rfl AV rfl rfl HZ3.out (by rw [HAL.out]; simp) HAI.out HA1.out ?_))
 obtain ⟨P3, hP3⟩ : ∃ P3, P3 = w3.heap.size := ⟨_, rfl⟩
 have HW4 : Hid (Keeps (fun _ => False) w3 ((w3.alloc (.cells (List.replicate 32 (Value.int .u8 0)).toArray 144)).setRow w3.heap.size AV.toArray) ∧ Blk ((w3.alloc (.cells (List.replicate 32 (Value.int .u8 0)).toArray 144)).setRow w3.heap.size AV.toArray) P3 144 AV) := H_ ⟨((Keeps.refl (fun _ => False) w3).alloc _).setRow (.inr (Nat.le_refl _)) _, by rw [hP3]; exact HZ3.out.setRow AV⟩
 rw [← hP3] at HW4 ⊢
 have HP3 := H_ hP3
 clear hP3
 refine gen_codeF (fun W => Keeps (fun _ => False) w3 W ∧ Blk W P3 144 AV) HW4.out ?_
 rintro w4 ⟨k4, b4⟩
 have HK4 := H_ k4
 have HB4 := H_ b4
 clear k4 b4 HW4
 go_upto_region 8 with (first
  | (go_at_call 154; refine (HHL.out _).mono ?_; rintro e w9 ⟨rfl, hw9⟩; have hw8 := hw9.symm; clear hw9; subst hw8)
  | (go_at_call 130; refine (HC2.out w1 w3 w4 E3 HK1.out HT3.out HK4.out).mono ?_; rintro e w5 ⟨rfl, E5, hT5⟩; have HT5 := H_ hT5; have HZ5 := H_ (Blk.new w5 144 (List.replicate 32 (Value.int .u8 0))); clear hT5)
  | ((with_reducible show wpList _ _ _ (⟨none, Op.store 144 _ _, _, _, _, _⟩ :: _) _ _); refine wpList_store_whole rfl 144 _ _ rfl BV rfl rfl HZ5.out (by rw [HBL.out]; simp) HBI.out HB1.out ?_))
 obtain ⟨P5, hP5⟩ : ∃ P5, P5 = w5.heap.size := ⟨_, rfl⟩
 have HW6 : Hid (Keeps (fun _ => False) w5 ((w5.alloc (.cells (List.replicate 32 (Value.int .u8 0)).toArray 144)).setRow w5.heap.size BV.toArray) ∧ Blk ((w5.alloc (.cells (List.replicate 32 (Value.int .u8 0)).toArray 144)).setRow w5.heap.size BV.toArray) P5 144 BV) := H_ ⟨((Keeps.refl (fun _ => False) w5).alloc _).setRow (.inr (Nat.le_refl _)) _, by rw [hP5]; exact HZ5.out.setRow BV⟩
 rw [← hP5] at HW6 ⊢
 clear hP5
 refine gen_codeF (fun W => Keeps (fun _ => False) w5 W ∧ Blk W P5 144 BV) HW6.out ?_
 rintro w6 ⟨k6, b6⟩
 have HN3 : Hid (¬ E3 P3 ∧ ¬ E3 N0) := H_ ⟨fun he => by have := HT3.out.lt _ he; have := HP3.out; omega, fun he => (HT3.out.new _ he).elim (HNE.out _ (Nat.le_refl _)) fun h5 => by have := HZ1.out.lt; omega⟩
 have HN5 : Hid (¬ E5 N0) := H_ fun he => (HT5.out.new _ he).elim HN3.out.2 fun h5 => by have := HZ1.out.lt; have := HT3.out.keep.size; have := HK4.out.size; omega
 have HB6 : Hid (Blk w6 P3 144 AV ∧ Blk w6 P5 144 BV ∧ Blk w6 N0 144 (List.replicate 32 (Value.int .u8 0))) := H_ ⟨k6.blk (HT5.out.keep.blk HB4.out HN3.out.1) fun h => h, b6, k6.blk (HT5.out.keep.blk (HK4.out.blk (HT3.out.keep.blk HZ1.out (HNE.out _ (Nat.le_refl _))) fun h => h) HN3.out.2) fun h => h⟩
 have HG6 : Hid (Tkg (RgSt p) E5 w6 (l ++ LA ++ LB)) := H_ ((((HST.out.stay (rgLasts p) HK1.out).next HT3.out).stay (rgLasts p) HK4.out |>.next HT5.out).stay (rgLasts p) k6)
 have HK6 := H_ k6
 clear k6 b6 HW6
 refine wp_region_tail (S := (fun V => Keeps (fun _ => False) w6 V)) 5 (by kernel_rfl) (Keeps.refl _ _).drew (fun h_ => ?_)
 refine tJ 0 36 ?_
 try simp only [pu]
 refine tT [1, 2, 5] (i := 1) (oi := ⟨some 37, _, _, _, _, _⟩) (v := _) rfl (yieldsIf_load_mid (by rfl) _ _ rfl _ _ rfl AV _ (fun w' h => rdg_rng (h.blk HB6.out.1 fun h => h)) Tryz.underlying144 rfl HAI.out) h_ ?_
 try simp only [pu]
 refine tT [3, 4, 5] (i := 3) (oi := ⟨some 39, _, _, _, _, _⟩) (v := _) rfl (yieldsIf_load_mid (by rfl) _ _ rfl _ _ rfl BV _ (fun w' h => rdg_rng (h.blk HB6.out.2.1 fun h => h)) Tryz.underlying144 rfl HBI.out) h_ ?_
 try simp only [pu]
 refine wpAnyT_step (i := 2) (o := ⟨some 38, _, _, _, _, _⟩) (by kernel_rfl) rfl (fun K hK => ?_)
 go_simp
 refine (HLA.out _).mono ?_
 rintro e w7 ⟨A7, c7, rfl, HE7⟩
 have hS7 := h_.trans HE7.out.2.1 (fun _ _ h => h)
 refine hK.out _ _ hS7 (fun h_ => ?_)
 clear hK K
 try simp only [pu]
 refine wpAnyT_step (i := 4) (o := ⟨some 40, _, _, _, _, _⟩) (by kernel_rfl) rfl (fun K hK => ?_)
 go_simp
 refine (HLB.out _).mono ?_
 rintro e w8 ⟨A8, c8, rfl, HE8⟩
 have hS8 := h_.trans HE8.out.2.1 (fun _ _ h => h)
 refine hK.out _ _ hS8 (fun h_ => ?_)
 clear hK K
 try simp only [pu]
 refine wpAnyT_tail (i := 5) (o := ⟨some 41, _, _, _, _, _⟩) (by kernel_rfl) (by kernel_rfl) rfl (fun K hK => ?_)
 go_simp
 refine (HJO.out w8 A7 c7 A8 c8 ((Rd.of_own HE7.out.1).keep HE8.out.2.1 (no_out _ _)) (Rd.of_own HE8.out.1)).mono ?_
 rintro e w9 ⟨g9, c9, rfl, HM9⟩
 refine hK.out _ _ ?_
 clear hK K
 try simp only [pu]
 refine wpAnyT_tail (i := 6) (o := ⟨some 42, _, _, _, _, _⟩) (by kernel_rfl) (by kernel_rfl) rfl (fun K hK => ?_)
 go_simp
 refine (HHA.out E5 w6 w8 w9 g9 c9 HG6.out hS8 HM9.out).mono ?_
 rintro e w10 ⟨rfl, E10, hT10⟩
 have HT10 := H_ hT10; have HZ10 := H_ (hT10.keep.blk (hS8.blk HB6.out.2.2 fun h => h) HN5.out)
 refine hK.out _ _ ?_
 clear hK K
 try simp only [pu]
 refine wpAnyT_tail (i := 7) (o := ⟨none, _, _, _, _, _⟩) (by kernel_rfl) (by kernel_rfl) rfl (fun K hK => ?_)
 refine step_store_whole rfl 144 (.tmp 4) (.tmp 42) rfl DV rfl rfl HZ10.out (by rw [HDL.out]; simp) HIN.out HD1.out ?_
 refine hK.out _ _ ?_
 clear hK K
 try simp only [pu]
 refine wpAnyT_done (by kernel_rfl) ?_
 go_wp2
 refine bodyPost_ret (results_blk rfl _ _ rfl (HZ10.out.setRow DV) Tryz.underlying144 rfl HIN.out) rfl ⟨rfl, E10, ?_⟩
 have ht : Took (RgSt p) E E5 w w8 (l ++ LA ++ LB) := Took.begin HK1.out ((((HT3.out.stay (rgLasts p) HK4.out).trans HT5.out).stay (rgLasts p) HK6.out).stay (rgLasts p) hS8)
 refine (ht.trans HT10.out).more (rgLasts p) (setRow_keep _ _ _) fun i hi => ?_
 subst hi
 refine ⟨by have := HNN.out; omega, fun he => ?_⟩
 rcases HT10.out.new _ he with h1 | h1
 ·exact HN5.out h1
 ·have h2 := (hS8.blk HB6.out.2.2 fun h => h).lt
  omega
theorem rlrow_any {p : Nat} : ∀ (n : Nat) (E : Nat → Prop) (w : World) (l : List (List Int)) (A : Option Addr) (c : Nat) (ds : List (List Int)), RRowIn p E w l A n c ds → Calls Tryz.prog 130 #[.pointer (some ⟨p, 0, none⟩), .slice A n c] w (RRowPost p E w l ds) := by
 intro n
 induction n using Nat.strongRecOn with
 | _ n ih =>
  intro E w l A c ds h
  by_cases h0 : n = 0
  ·subst h0
   exact rrow_none h
  ·by_cases h1 : n = 1
   ·subst h1
    match ds, h with
    | [d], h => exact rrow_one h
    | [], h => have := h.rd.1; simp at this
    | _ :: _ :: _, h => have := h.rd.1; simp at this
   ·exact rrow_more n ih (by omega) h
end Go.Proofs.YtplleficmkfniaaGreatDoor
