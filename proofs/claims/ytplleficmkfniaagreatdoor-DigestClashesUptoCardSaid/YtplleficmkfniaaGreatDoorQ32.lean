/- Texts. -/
import Derived.Test.YtplleficmkfniaaGreatDoorQ16
import Derived.Test.YtplleficmkfniaaGreatDoorQ31
set_option linter.unusedSimpArgs false
set_option maxRecDepth 100000
set_option maxHeartbeats 4000000
namespace Go.Proofs.YtplleficmkfniaaGreatDoor
open Go Go.RowKit Go.Aff Go.Sha Go.Dig Go.Book
theorem mine_since {w w1 wr : World} {e : TypeId} {A : Option Addr} {m c : Nat} {xs : List Value} (h : Mine w1 wr e A m c xs) (hk : Keeps (fun _ => False) w w1) : Mine w wr e A m c xs := ⟨h.1, hk.trans h.2.1 (fun _ _ h => h), fun g hg => Nat.le_trans hk.size (h.2.2 g hg)⟩
theorem mine_byte (w : World) (b : Int) : Mine w (w.alloc (.cells #[.int .u8 b] 5)) 5 (some ⟨w.heap.size, 0, none⟩) 1 1 (vb [b]) := Mine.built w w 5 1 [.int .u8 b] (Keeps.refl _ _) rfl (by unfold maxLen; omega)
theorem rjoined_any (w : World) (tag : Int) (A : Option Addr) (n c : Nat) (a : List Int) (ha : a.length = n) (hra : Rd w A n (vb a)) (hn : n ≤ 1099511627000) (B : Option Addr) (m d : Nat) (b : List Int) (hb : b.length = m) (hrb : Rd w B m (vb b)) (hm : m ≤ 1099511627000) :
  Calls Tryz.prog 128 #[.int .u8 tag, .slice A n c, .slice B m d] w fun e w' => ∃ g c', e = .returned (.slice (some ⟨g, 0, none⟩) (1 + n + m) c') ∧ Mine w w' 5 (some ⟨g, 0, none⟩) (1 + n + m) c' (vb (tag :: (a ++ b))) := by
 have HM := H_ (mine_byte w tag)
 have HRA := H_ (hra.alloc (.cells #[.int .u8 tag] 5))
 have HRB := H_ hrb
 clear hra hrb
 go_enter Tryz.func128, Tryz.ntmps128
 go_wp2_with (first
  | (at_builtin; refine wpList_append_rd _ rfl (.tmp 10) (.tmp 11) 48 rfl 5 (.int .u8 0) 1 Tryz.underlying48 info5 rfl _ 1 _ rfl HM.out.1 A n c _ rfl HRA.out (vb_one _) (by unfold maxLen; omega) (by omega) ?_; intro A7 c7 w7 hown7 hg7 hb7; have HM7 := H_ (HM.out.app0 hown7 hg7 hb7); clear hown7 hg7 hb7)
  | (at_builtin; refine wpList_append_rd _ rfl (.tmp 13) (.tmp 14) 48 rfl 5 (.int .u8 0) 1 Tryz.underlying48 info5 rfl _ (1 + n) _ rfl HM7.out.1 B m d _ rfl (HRB.out.keep HM7.out.2.1 (no_out _ _)) (vb_one _) (by unfold maxLen; omega) (by omega) ?_; intro A8 c8 w8 hown8 hg8 hb8; have HM8 := H_ (HM7.out.app0 hown8 hg8 hb8); clear hown8 hg8 hb8))
 go_ret
 obtain ⟨g, hA, _⟩ := mine_some HM8.out (by omega)
 subst hA
 refine ⟨g, c8, rfl, ?_⟩
 have he : vb [tag] ++ vb a ++ vb b = vb (tag :: (a ++ b)) := by simp [vb]
 rw [← he]
 exact HM8.out
theorem rlist_any (w : World) (d : List Int) (hd : d.length = 32) :
  Calls Tryz.prog 179 #[.agg (vb d).toArray] w fun e w' => ∃ A c', e = .returned (.slice A 32 c') ∧ Hid (Mine w w' 5 A 32 c' (vb d)) := by
 obtain ⟨RV, hRV⟩ : ∃ RV, RV = vb d := ⟨_, rfl⟩
 have hl : RV.length = 32 := by rw [hRV]; simp [vb, hd]
 have HB : Blk (w.alloc (.cells RV.toArray 144)) w.heap.size 144 RV := Blk.new _ _ _
 have HM : Hid (Mine w ((w.alloc (.cells RV.toArray 144)).alloc (.cells #[] 5)) 5 (some ⟨w.heap.size + 1, 0, none⟩) 0 0 []) := H_ (by
  have h := Mine.built w (w.alloc (.cells RV.toArray 144)) 5 0 [] ((Keeps.refl _ w).alloc _) rfl (by unfold maxLen; omega)
  rwa [World.size_alloc] at h)
 have HR := H_ ((Rd.of_blk HB hl).alloc (.cells #[] 5))
 have H1 : Hid (∀ u ∈ RV, u.oneCell' = true) := H_ (by rw [hRV]; exact vb_one _)
 rw [← hRV]
 clear hRV hd HB hl
 go_enter Tryz.func179, Tryz.ntmps179
 go_wp2_with (at_builtin; refine wpList_append_rd _ rfl (.tmp 3) (.tmp 4) 48 rfl 5 (.int .u8 0) 1 Tryz.underlying48 info5 rfl _ 0 [] rfl HM.out.1 (some ⟨w.heap.size, 0, none⟩) 32 32 RV rfl HR.out H1.out (by unfold maxLen; omega) (by omega) ?_; intro A' c' w' hown hg hb; have HM2 := H_ (HM.out.app0 hown hg hb); clear hown hg hb)
 go_ret
 have hm := HM2.out
 rw [List.nil_append, Nat.zero_add] at hm
 exact ⟨A', c', rfl, H_ hm⟩
theorem rhalf_any (n : Nat) (w : World) (h : 2 ≤ n) (h2 : n ≤ 1099511627776) : Calls Tryz.prog 154 #[.int .i64 n] w fun e w' => e = .returned (.int .i64 (spl n : Nat)) ∧ w' = w := by
 have HEND : Hid (∀ a : Nat, 2 ^ a < n → ¬ 2 * 2 ^ a < n → 2 ^ a = spl n) := H_ fun a h1 h2 => (spl_eq h1 (by rw [Nat.pow_succ]; omega)).symm
 obtain ⟨N, hN⟩ : ∃ N, N = spl n := ⟨_, rfl⟩
 rw [← hN] at HEND ⊢
 clear hN
 go_enter Tryz.func154, Tryz.ntmps154
 go_wp2
 go_loop [3] (fun m => ∃ k : Nat, m = .int .i64 k ∧ 0 < k ∧ k < n ∧ Hid (∃ a : Nat, k = 2 ^ a)) (fun m => n - (intOf m).toNat)
 case atStart => exact ⟨1, rfl, by omega, by omega, H_ ⟨0, rfl⟩⟩
 case round =>
  obtain ⟨k, rfl, hk0, hk, HA⟩ := hrel
  have w1 : IntKind.i64.wrap (2 * (k : Int)) = 2 * (k : Int) := IntWalk.i64_in _ (by omega)
  have w2 : IntKind.i64.wrap ((k : Int) * 2) = 2 * (k : Int) := by rw [IntWalk.i64_in _ (by omega)]; omega
  by_cases hlt : 2 * (k : Int) < (n : Int)
  ·go_wp2
   go_round
   case rel =>
    refine ⟨2 * k, by go_num, by omega, by omega, H_ ?_⟩
    obtain ⟨a, ha⟩ := HA.out
    exact ⟨a + 1, by rw [ha, Nat.pow_succ]; omega⟩
   case measure => simp [intOf]; omega
  ·obtain ⟨a, ha⟩ := HA.out
   have he := HEND.out a (by omega) (by omega)
   rw [← ha] at he
   subst he
   clear ha HEND HA a
   go_wp2
   go_ret
   exact ⟨rfl, rfl⟩
def lastE (n k : Nat) : List Int := (eight n).drop (8 - k)
theorem lastE_zero (n : Nat) : lastE n 0 = [] := List.drop_eq_nil_iff.2 (by rw [eight_len]; omega)
theorem lastE_succ (n k : Nat) (h : k < 8) : lastE n (k + 1) = ((n / 256 ^ k % 256 : Nat) : Int) :: lastE n k := by
 unfold lastE
 rw [List.drop_eq_getElem_cons (i := 8 - (k + 1)) (by rw [eight_len]; omega), show 8 - (k + 1) + 1 = 8 - k by omega]
 congr 1
 unfold eight
 rw [List.getElem_map, List.getElem_range, show 7 - (8 - (k + 1)) = k by omega]
theorem div_step (n k : Nat) : n / 256 ^ k / 256 = n / 256 ^ (k + 1) := by rw [Nat.div_div_eq_div_mul, Nat.pow_succ]
theorem reight_any (n : Nat) (w : World) (hn : n < 18446744073709551616) : Calls Tryz.prog 129 #[.int .u64 n] w fun e w' => ∃ A c', e = .returned (.slice A 8 c') ∧ Hid (Mine w w' 5 A 8 c' (vb (eight n))) := by
 go_enter Tryz.func129, Tryz.ntmps129
 go_wp2
 go_loopw [0, 3, 4] (fun q r i wr => ∃ (k : Nat) (A : Option Addr) (c : Nat), k ≤ 8 ∧ q = .int .u64 (n / 256 ^ k : Nat) ∧ i = .int .i64 k ∧ r = .slice A k c ∧ Hid (Mine w wr 5 A k c (vb (lastE n k)))) (fun _ _ i _ => 8 - (intOf i).toNat)
 case atStart => exact ⟨0, none, 0, by omega, by simp, rfl, rfl, H_ ⟨by rw [lastE_zero]; exact World.ownsRow_nil _ _ _ _, Keeps.refl _ _, fun g h => by cases h⟩⟩
 case round =>
  obtain ⟨k, A, c, hk, rfl, rfl, rfl, HO⟩ := hrel
  by_cases hlt : k < 8
  ·obtain ⟨q, hq⟩ : ∃ q, q = n / 256 ^ k := ⟨_, rfl⟩
   have hqb : q < 18446744073709551616 := by rw [hq]; exact Nat.lt_of_le_of_lt (Nat.div_le_self _ _) hn
   have HL : Hid (vb [((q % 256 : Nat) : Int)] ++ vb (lastE n k) = vb (lastE n (k + 1))) := H_ (by rw [lastE_succ n k hlt, ← hq]; rfl)
   have HQ : Hid (q / 256 = n / 256 ^ (k + 1)) := H_ (by rw [hq, div_step])
   rw [← hq]
   clear hq
   have HB := H_ (mine_byte wr ((q % 256 : Nat) : Int))
   have HR := H_ ((Rd.of_own HO.out.1).alloc (.cells #[.int .u8 ((q % 256 : Nat) : Int)] 5))
   have hx1 : Int.tmod (q : Int) 256 = ((q % 256 : Nat) : Int) := by rw [Int.tmod_eq_emod_of_nonneg (by omega)]; omega
   have hx2 : Int.tdiv (q : Int) 256 = ((q / 256 : Nat) : Int) := by rw [Int.tdiv_eq_ediv_of_nonneg (by omega)]; omega
   have hx3 : IntKind.u64.wrap ((q % 256 : Nat) : Int) = ((q % 256 : Nat) : Int) := IntWalk.u64_in _ (by omega)
   have hx4 : IntKind.u64.wrap ((q / 256 : Nat) : Int) = ((q / 256 : Nat) : Int) := IntWalk.u64_in _ (by omega)
   have hx5 : IntKind.u8.wrap ((q % 256 : Nat) : Int) = ((q % 256 : Nat) : Int) := IntWalk.u8_in _ (by omega)
   go_wp2_with (at_builtin; refine wpList_append_rd _ rfl (.tmp 12) (.tmp 13) 48 rfl 5 (.int .u8 0) 1 Tryz.underlying48 info5 rfl _ 1 _ rfl HB.out.1 A k c _ rfl HR.out (vb_one _) (by unfold maxLen; omega) (by omega) ?_; intro A7 c7 w7 hown7 hg7 hb7; have HM7 := H_ (mine_since (HB.out.app0 hown7 hg7 hb7) HO.out.2.1); clear hown7 hg7 hb7)
   go_roundw
   case rel =>
    refine ⟨k + 1, A7, c7, by omega, by rw [← HQ.out]; exact congrArg _ (by omega), by go_num, by rw [Nat.add_comm], H_ ?_⟩
    rw [← HL.out, Nat.add_comm k 1]
    exact HM7.out
   case measure => simp [intOf]; omega
  ·obtain rfl : k = 8 := by omega
   have HE : Hid (lastE n 8 = eight n) := H_ rfl
   rw [HE.out] at HO
   go_wp2
   go_ret
   exact ⟨A, c, rfl, HO⟩
theorem rtexts_push {E : Nat → Prop} {w w3 w5 : World} {p : Nat} {B : Option Addr} {d k : Nat} {vals : List Value} {gs : List Nat} {l : List (List Int)} (h : LogAt 143 48 5 E w p B d vals gs l) (hk : k = l.length) {bs : List Int} {n : Nat} (hn : bs.length = n) (hC : ∀ i, E i → IsCells w i)
  (k3 : Keeps (fun _ => False) w w3) {g3 c3 : Nat} (ho3 : w3.ownsRow 0 5 1 (.slice (some ⟨g3, 0, none⟩) n c3) n (vb bs)) (hg3 : w.heap.size ≤ g3) {A5 : Option Addr} {c5 : Nat}
  (ho5 : w5.ownsRow 0 48 1 (.slice A5 (k + 1) c5) (k + 1) (vals ++ [.slice (some ⟨g3, 0, none⟩) n c3])) (hg5 : (w3.alloc (.cells #[.slice (some ⟨g3, 0, none⟩) n c3] 48)).grownBy w5 (Value.slice B k d).ownBlock)
  (hb5 : (Value.slice A5 (k + 1) c5).ownBlock = (Value.slice B k d).ownBlock ∨ (Value.slice A5 (k + 1) c5).ownBlock = some (w3.alloc (.cells #[.slice (some ⟨g3, 0, none⟩) n c3] 48)).heap.size) :
  Blk w5 p 143 [.slice B k d] ∧ Rd (w5.setCell ⟨p, 0, none⟩ (.slice A5 (k + 1) c5)) (some ⟨g3, 0, none⟩) n (vb bs) ∧ ∃ E', Took (RgSt p) E E' w (w5.setCell ⟨p, 0, none⟩ (.slice A5 (k + 1) c5)) (l ++ [bs]) ∧ ∀ i, E' i → E i ∨ i = g3 ∨ w3.heap.size < i := by
 have k4 : Keeps (fun _ => False) w (w3.alloc (.cells #[.slice (some ⟨g3, 0, none⟩) n c3] 48)) := k3.alloc _
 have h4 := h.keep k4 (fun _ _ h => h)
 have ho4 : (w3.alloc (.cells #[.slice (some ⟨g3, 0, none⟩) n c3] 48)).ownsRow 0 5 1 (.slice (some ⟨g3, 0, none⟩) n c3) n (vb bs) := (((Keeps.refl (fun _ => False) w3).alloc _).own ho3 (fun _ _ h => h))
 have hne : ¬ E g3 := fun e => by have := (hC _ e).lt; omega
 have hr := h4.grow (by decide) (by decide) (by decide) hn hne ho4 hk.symm hg5 ho5 hb5
 have hp : (Value.slice B k d).ownBlock ≠ some p := by rw [hk]; exact own_blk h.row h.box (by decide)
 have hbx := (Keeps.of_grown hg5).blk h4.box hp
 rw [← hk] at hbx
 refine ⟨hbx, Rd.of_own (hr.2.1.own ho4 fun g hg e => hne (by have e1 : some g3 = some g := hg; injection e1 with e1; exact e1 ▸ e)), _, ⟨hr.1, fun i hi => ?_, hr.2.2.1 fun i hi => (hC i hi).keep k4 (fun h => h), (k4.mono fun _ _ h => h.elim).trans hr.2.1 fun _ _ h => h⟩, fun i hi => ?_⟩
 ·rcases hi with hi | hi | hi
  ·exact .inl hi.1
  ·exact .inr (by omega)
  ·exact (hr.2.2.2 i hi).imp id fun h => Nat.le_trans k4.size h
 ·rcases hi with hi | hi | hi
  ·exact .inl hi.1
  ·exact .inr (.inl hi)
  ·rcases hr.2.2.2 i hi with h | h
   ·exact .inl h
   ·rw [World.size_alloc] at h
    exact .inr (.inr (by omega))
theorem rhash_any {E : Nat → Prop} {w0 w : World} {l : List (List Int)} {p : Nat} (hT : Tkg (RgSt p) E w0 l) (hl : l.length ≤ 1099511627776) (k : Keeps (fun _ => False) w0 w) (g n c : Nat) (bs : List Int) (hn : bs.length = n) (hb : n ≤ 1099511627776) (hm : Mine w0 w 5 (some ⟨g, 0, none⟩) n c (vb bs)) (hbs : IsBytes bs) :
  Calls Tryz.prog 127 #[.pointer (some ⟨p, 0, none⟩), .slice (some ⟨g, 0, none⟩) n c] w fun e w' => e = .returned (.agg (vb (hsh bs)).toArray) ∧ ∃ E', Took (RgSt p) E E' w0 w' (l ++ [bs]) := by
 obtain ⟨B, d, vals, gs, hh⟩ := hT.st
 obtain ⟨k0, hk0⟩ : ∃ k0, k0 = l.length := ⟨_, rfl⟩
 obtain ⟨N0, hN0⟩ : ∃ N0, N0 = w.heap.size := ⟨_, rfl⟩
 obtain ⟨DV, hDV⟩ : ∃ DV, DV = vb (hsh bs) := ⟨_, rfl⟩
 have HD1 : Hid (∀ u ∈ DV, u.oneCell' = true) := H_ (by rw [hDV]; exact vb_one _)
 have HDL : Hid (DV.length = 32) := H_ (by rw [hDV]; simp [vb, hsh_len])
 have HIN : Hid ((Tryz.prog.info? 144).map (·.size) = some DV.length) := H_ (by rw [HDL.out]; kernel_rfl)
 have HW1 : Hid (Keeps (fun _ => False) w (w.alloc (.cells (List.replicate 32 (Value.int .u8 0)).toArray 144)) ∧ Blk (w.alloc (.cells (List.replicate 32 (Value.int .u8 0)).toArray 144)) N0 144 (List.replicate 32 (Value.int .u8 0))) := H_ ⟨(Keeps.refl _ w).alloc _, by rw [hN0]; exact Blk.new _ _ _⟩
 have HRO : Hid (∀ W, Rd W (some ⟨g, 0, none⟩) n (vb bs) → Calls Tryz.prog 66 #[.slice (some ⟨g, 0, none⟩) n c] W fun e w' => e = .returned (.agg DV.toArray) ∧ Keeps (fun _ => False) W w') := H_ fun W hW => by
  rw [hDV]
  exact rof_any W (some ⟨g, 0, none⟩) n c bs hn hW hbs (by omega)
 have HX := H_ (And.intro hT (And.intro hh (And.intro hm (And.intro hk0 (And.intro k (And.intro hn hN0))))))
 have hkb : k0 ≤ 1099511627776 := by omega
 rw [← hDV]
 clear hT hh hm hbs hDV hk0 k hN0
 go_enter Tryz.func127, Tryz.ntmps127
 go_upto_region 1 with fail
 refine gen_codeF (fun W => Keeps (fun _ => False) w W ∧ Blk W N0 144 (List.replicate 32 (Value.int .u8 0))) HW1.out ?_
 rintro w1 ⟨k1, z1⟩
 obtain ⟨hT, hh, hm, hk0, k, hn', hN0⟩ := HX.out
 rw [← hN0]
 have k2 : Keeps (fun _ => False) w0 w1 := k.trans k1 fun _ _ h => h
 have hc0 : w1.cell? ⟨p, 0, none⟩ = some (.slice B k0 d) := by
  have h := (k2.blk hh.box (fun h => h)).cell 0
  rw [← hk0] at h
  exact h
 have HOW : Hid ((w1.alloc (.cells #[.slice (some ⟨g, 0, none⟩) n c] 48)).ownsRow 0 48 1 (.slice B k0 d) k0 vals) := H_ (by
  have h := (hh.keep (k2.alloc (.cells #[.slice (some ⟨g, 0, none⟩) n c] 48)) (fun _ _ h => h)).row
  rwa [← hk0] at h)
 have HRN : Hid (Rd (w1.alloc (.cells #[.slice (some ⟨g, 0, none⟩) n c] 48)) (some ⟨w1.heap.size, 0, none⟩) 1 [.slice (some ⟨g, 0, none⟩) n c]) := H_ (Rd.of_blk (Blk.new w1 48 [.slice (some ⟨g, 0, none⟩) n c]) (n := 1) rfl)
 have HPU : Hid (∀ A5 c5 w5, w5.ownsRow 0 48 1 (.slice A5 (k0 + 1) c5) (k0 + 1) (vals ++ [.slice (some ⟨g, 0, none⟩) n c]) → (w1.alloc (.cells #[.slice (some ⟨g, 0, none⟩) n c] 48)).grownBy w5 (Value.slice B k0 d).ownBlock →
   ((Value.slice A5 (k0 + 1) c5).ownBlock = (Value.slice B k0 d).ownBlock ∨ (Value.slice A5 (k0 + 1) c5).ownBlock = some (w1.alloc (.cells #[.slice (some ⟨g, 0, none⟩) n c] 48)).heap.size) →
   Blk w5 p 143 [.slice B k0 d] ∧ Hid (Rd (w5.setCell ⟨p, 0, none⟩ (.slice A5 (k0 + 1) c5)) (some ⟨g, 0, none⟩) n (vb bs) ∧ Blk (w5.setCell ⟨p, 0, none⟩ (.slice A5 (k0 + 1) c5)) N0 144 (List.replicate 32 (Value.int .u8 0)) ∧ ∃ E', Took (RgSt p) E E' w0 (w5.setCell ⟨p, 0, none⟩ (.slice A5 (k0 + 1) c5)) (l ++ [bs]) ∧ ¬ E' N0)) := H_ fun A5 c5 w5 h1 h2 h3 => by
  have ho := k1.own hm.1 (fun _ _ h => h)
  obtain ⟨r1, r2, E', r3, r4⟩ := rtexts_push hh hk0 hn hT.cel k2 ho (hm.2.2 g rfl) h1 h2 h3
  have hs := k.size
  have hgl : g < w.heap.size := own_ltN hm.1
  have hN : ¬ E N0 := fun e => by have := hT.lt _ e; omega
  refine ⟨r1, H_ ⟨r2, ?_, E', r3, fun e => ?_⟩⟩
  ·have hz : Blk (w1.alloc (.cells #[.slice (some ⟨g, 0, none⟩) n c] 48)) N0 144 (List.replicate 32 (Value.int .u8 0)) := z1.alloc _
   have hp : N0 ≠ p := fun e => hN (e ▸ hh.inE)
   have hq : (Value.slice B k0 d).ownBlock ≠ some N0 := fun e => hN (hh.rowE _ (by rw [← hk0]; exact e))
   exact (((Keeps.refl (fun i => i = p) w5).setCell (p := ⟨p, 0, none⟩) (.inl rfl) _).blk ((Keeps.of_grown h2).blk hz hq) hp)
  ·have hz := z1.lt
   rcases r4 _ e with h | h | h
   ·exact hN h
   ·omega
   ·omega
 have HFIN : Hid (w0.heap.size ≤ N0) := H_ (by have := k.size; omega)
 clear hT hh hm hk0 k hn' hN0 k1 k2 z1
 go_wp2_with (first
  | (at_builtin; refine wpList_append_rd _ rfl (.tmp 9) (.tmp 11) 39 rfl 48 (.slice none 0 0) 24 Tryz.underlying39 infoRow rfl _ k0 vals rfl HOW.out (some ⟨w1.heap.size, 0, none⟩) 1 1 [.slice (some ⟨g, 0, none⟩) n c] rfl HRN.out (by intro u hu; rw [List.mem_singleton.1 hu]; rfl) (by simp only [maxLen]; omega) (by omega) ?_; intro A5 c5 w5 ho5 hg5 hb5; obtain ⟨hbx5, HP5⟩ := HPU.out A5 c5 w5 ho5 hg5 hb5; have cv5 := hbx5.cell 0; have fz5 := hbx5.frozen 0; clear hbx5 ho5 hg5 hb5)
  | (go_at_call 66; refine (HRO.out _ HP5.out.1).mono ?_; rintro e w6 ⟨rfl, hk6⟩; have HZ6 := H_ (hk6.blk HP5.out.2.1 fun h => h); have HK6 := H_ hk6; clear hk6)
  | ((with_reducible show wpList _ _ _ (⟨none, Op.store 144 _ _, _, _, _, _⟩ :: _) _ _); refine wpList_store_whole rfl 144 _ _ rfl DV rfl rfl HZ6.out (by rw [HDL.out]; simp) HIN.out HD1.out ?_))
 refine bodyPost_ret (results_blk rfl _ _ rfl (HZ6.out.setRow DV) Tryz.underlying144 rfl HIN.out) rfl ⟨rfl, ?_⟩
 obtain ⟨E', h1, h2⟩ := HP5.out.2.2
 refine ⟨E', (h1.stay (rgLasts p) HK6.out).more (rgLasts p) (setRow_keep _ _ _) fun i hi => ?_⟩
 subst hi
 exact ⟨HFIN.out, h2⟩
end Go.Proofs.YtplleficmkfniaaGreatDoor
namespace Go.Proofs.YtplleficmkfniaaGreatDoor
open Go Go.RowKit Go.Aff Go.Sha Go.Dig Go.Book
attribute [local go_sem] Oper.semAt_some
theorem infoRD (DV : List Value) (h : DV.length = 32) : (Tryz.prog.info? 144).map (·.size) = some DV.length := by rw [h]; kernel_rfl
theorem rdg_rng {w : World} {p : Nat} {ty : TypeId} {cs : List Value} (h : Blk w p ty cs) : w.rangeAt p 0 cs := fun j v hv => by rw [Nat.zero_add, h.cell]; exact hv
theorem rfin {p : Nat} {E E9 : Nat → Prop} {w w6 w9 : World} {L : List (List Int)} {P : Nat} {ty : TypeId} {cs : List Value} (h : Took (RgSt p) E E9 w6 w9 L) (k : Keeps (fun _ => False) w w6) (hb : Blk w6 P ty cs) (hE : ¬ E P) (hP : w.heap.size ≤ P) (vs : Array Value) : Took (RgSt p) E E9 w (w9.setRow P vs) L := by
 refine (Took.begin k h).more (rgLasts p) (setRow_keep _ _ _) fun i hi => ?_
 subst hi
 refine ⟨hP, fun he => ?_⟩
 rcases h.new _ he with h1 | h1
 ·exact hE h1
 ·have := hb.lt
  omega
theorem rhash_mine {E : Nat → Prop} {w w6 w7 : World} {l : List (List Int)} {p : Nat} (hT : Tkg (RgSt p) E w l) (hl : l.length ≤ 1099511627776) (k6 : Keeps (fun _ => False) w w6) {g n c : Nat} {bs : List Int} {DV : List Value} (hDV : DV = vb (hsh bs)) (hn : bs.length = n) (hb : n ≤ 1099511627776) (hm : Mine w6 w7 5 (some ⟨g, 0, none⟩) n c (vb bs)) (hbs : IsBytes bs) :
  Calls Tryz.prog 127 #[.pointer (some ⟨p, 0, none⟩), .slice (some ⟨g, 0, none⟩) n c] w7 fun e w' => e = .returned (.agg DV.toArray) ∧ ∃ E', Took (RgSt p) E E' w6 w' (l ++ [bs]) := by
 subst hDV
 exact rhash_any (hT.stay (rgLasts p) k6) hl hm.2.1 g n c bs hn hb hm hbs
theorem rgroup_any {p : Nat} {E : Nat → Prop} {w : World} {l : List (List Int)} (hT : Tkg (RgSt p) E w l) (hl : l.length ≤ 1099511627776) (sort : Int) (n : Nat) (hn : n < 9223372036854775808) (row : List Int) (hrl : row.length = 32) (hrb : IsBytes row) :
  Calls Tryz.prog 125 #[.pointer (some ⟨p, 0, none⟩), .int .i64 sort, .int .i64 n, .agg (vb row).toArray] w fun e w' => e = .returned (.agg (vb (grpD sort n row)).toArray) ∧ ∃ E', Took (RgSt p) E E' w w' (l ++ [grpT sort n row]) := by
 obtain ⟨tag, htag⟩ : ∃ tag : Int, tag = if sort = 6 then 111 else 108 := ⟨_, rfl⟩
 have htb : 0 ≤ tag ∧ tag < 256 := by rw [htag]; split <;> omega
 obtain ⟨X, hX⟩ : ∃ X, X = grpT sort n row := ⟨_, rfl⟩
 have hX2 : X = tag :: (eight n ++ row) := by rw [hX, htag]; rfl
 have hgd : grpD sort n row = hsh X := by rw [hX]; rfl
 rw [hgd, ← hX]
 have hXB : IsBytes X := by
  rw [hX2]
  intro x hx
  rcases List.mem_cons.1 hx with rfl | hx
  ·exact htb
  ·exact (List.mem_append.1 hx).elim (eight_bytes n x) (hrb x)
 obtain ⟨N0, hN0⟩ : ∃ N0, N0 = w.heap.size := ⟨_, rfl⟩
 obtain ⟨RV, hRV⟩ : ∃ RV, RV = vb row := ⟨_, rfl⟩
 have HRL : RV.length = 32 := by rw [hRV]; simp [vb, hrl]
 rw [← hRV]
 have HW2 : Hid (Keeps (fun _ => False) w ((w.alloc (.cells RV.toArray 144)).alloc (.cells (List.replicate 32 (Value.int .u8 0)).toArray 144)) ∧ Blk ((w.alloc (.cells RV.toArray 144)).alloc (.cells (List.replicate 32 (Value.int .u8 0)).toArray 144)) N0 144 RV ∧ Blk ((w.alloc (.cells RV.toArray 144)).alloc (.cells (List.replicate 32 (Value.int .u8 0)).toArray 144)) (N0 + 1) 144 (List.replicate 32 (Value.int .u8 0))) := H_ ⟨((Keeps.refl _ w).alloc _).alloc _, by rw [hN0]; exact (Blk.new _ _ _).alloc _, by
  have h := Blk.new (w.alloc (.cells RV.toArray 144)) 144 (List.replicate 32 (Value.int .u8 0))
  rwa [World.size_alloc, ← hN0] at h⟩
 obtain ⟨DV, hDV⟩ : ∃ DV, DV = vb (hsh X) := ⟨_, rfl⟩
 have HD1 : Hid (∀ u ∈ DV, u.oneCell' = true) := H_ (by rw [hDV]; exact vb_one _)
 have HDL : Hid (DV.length = 32) := H_ (by rw [hDV]; simp [vb, hsh_len])
 have HIN : Hid ((Tryz.prog.info? 144).map (·.size) = some DV.length) := H_ (infoRD DV HDL.out)
 have HIR : Hid ((Tryz.prog.info? 144).map (·.size) = some RV.length) := H_ (infoRD RV HRL)
 have HEI : Hid (∀ W, Calls Tryz.prog 129 #[.int .u64 n] W fun e w' => ∃ A c', e = .returned (.slice A 8 c') ∧ Hid (Mine W w' 5 A 8 c' (vb (eight n)))) := H_ fun W => reight_any n W (by omega)
 have HLI : Hid (∀ W, Calls Tryz.prog 179 #[.agg RV.toArray] W fun e w' => ∃ A c', e = .returned (.slice A 32 c') ∧ Hid (Mine W w' 5 A 32 c' (vb row))) := H_ fun W => by rw [hRV]; exact rlist_any W row hrl
 have HJO : Hid (∀ W A c B d, Rd W A 8 (vb (eight n)) → Rd W B 32 (vb row) → Calls Tryz.prog 128 #[.int .u8 tag, .slice A 8 c, .slice B 32 d] W fun e w' => ∃ g c', e = .returned (.slice (some ⟨g, 0, none⟩) 41 c') ∧ Hid (Mine W w' 5 (some ⟨g, 0, none⟩) 41 c' (vb X))) := H_ fun W A c B d h1 h2 => (rjoined_any W tag A 8 c (eight n) (eight_len n) h1 (by omega) B 32 d row hrl h2 (by omega)).mono fun e w' ⟨g, c', h3, h4⟩ => ⟨g, c', h3, H_ (by rw [hX2]; exact h4)⟩
 have HHA : Hid (∀ w6 w7 g c, Keeps (fun _ => False) w w6 → Mine w6 w7 5 (some ⟨g, 0, none⟩) 41 c (vb X) → Calls Tryz.prog 127 #[.pointer (some ⟨p, 0, none⟩), .slice (some ⟨g, 0, none⟩) 41 c] w7 fun e w' => e = .returned (.agg DV.toArray) ∧ ∃ E', Took (RgSt p) E E' w6 w' (l ++ [X])) := H_ fun w6 w7 g c h1 h2 => rhash_mine hT hl h1 hDV (by rw [hX2]; simp [eight_len, hrl]) (by omega) h2 hXB
 have HNE : Hid (¬ E (N0 + 1)) := H_ fun he => by have := hT.lt _ he; omega
 have HNN := H_ hN0
 have hnw : IntKind.u64.wrap (n : Int) = (n : Int) := IntWalk.u64_in _ (by omega)
 rw [← hDV]
 clear hT hrb hRV hDV hX hX2 hgd hrl htb hN0 hXB hl
 have HTA := H_ htag
 clear htag
 by_cases h6 : sort = 6
 all_goals
  go_enter Tryz.func125, Tryz.ntmps125
  go_upto_region 4 with fail
  refine gen_codeF (fun W => Keeps (fun _ => False) w W ∧ Blk W N0 144 RV ∧ Blk W (N0 + 1) 144 (List.replicate 32 (Value.int .u8 0))) HW2.out ?_
  rintro w2 ⟨k2, b2, z2⟩
  have hNN := HNN.out
  rw [← hNN]
  clear hNN
  have HK2 := H_ k2
  have HB2 := H_ (And.intro b2 z2)
  clear k2 b2 z2
  have HTT := HTA.out
  first | rw [if_pos h6] at HTT | rw [if_neg h6] at HTT
  subst HTT
  refine wp_region_tail (S := (fun V => Keeps (fun _ => False) w2 V)) 7 (by kernel_rfl) (Keeps.refl _ _).drew (fun h_ => ?_)
  refine tJ 0 12 ?_
  try simp only [pu]
  refine tJ 1 13 ?_
  try simp only [pu]
  refine tJ 2 14 ?_
  try simp only [pu]
  refine tJ 3 15 ?_
  try simp only [pu]
  refine tT [5, 6, 7] (i := 5) (oi := ⟨some 17, _, _, _, _, _⟩) (v := _) rfl (yieldsIf_load_mid (by rfl) _ _ rfl _ _ rfl RV _ (fun w' h => rdg_rng (h.blk HB2.out.1 fun h => h)) Tryz.underlying144 rfl HIR.out) h_ ?_
  try simp only [pu]
  refine wpAnyT_step (i := 4) (o := ⟨some 16, _, _, _, _, _⟩) (by kernel_rfl) rfl (fun K hK => ?_)
  go_simp
  refine (HEI.out _).mono ?_
  rintro e w4 ⟨A4, c4, rfl, HE4⟩
  have hS4 := h_.trans HE4.out.2.1 (fun _ _ h => h)
  refine hK.out _ _ hS4 (fun h_ => ?_)
  clear hK K
  try simp only [pu]
  refine wpAnyT_step (i := 6) (o := ⟨some 18, _, _, _, _, _⟩) (by kernel_rfl) rfl (fun K hK => ?_)
  go_simp
  refine (HLI.out _).mono ?_
  rintro e w6 ⟨A6, c6, rfl, HE6⟩
  have hS6 := h_.trans HE6.out.2.1 (fun _ _ h => h)
  refine hK.out _ _ hS6 (fun h_ => ?_)
  clear hK K
  try simp only [pu]
  refine wpAnyT_tail (i := 7) (o := ⟨some 19, _, _, _, _, _⟩) (by kernel_rfl) (by kernel_rfl) rfl (fun K hK => ?_)
  go_simp
  refine (HJO.out w6 A4 c4 A6 c6 ((Rd.of_own HE4.out.1).keep HE6.out.2.1 (no_out _ _)) (Rd.of_own HE6.out.1)).mono ?_
  rintro e w7 ⟨g7, c7, rfl, HM7⟩
  refine hK.out _ _ ?_
  clear hK K
  try simp only [pu]
  refine wpAnyT_tail (i := 8) (o := ⟨some 20, _, _, _, _, _⟩) (by kernel_rfl) (by kernel_rfl) rfl (fun K hK => ?_)
  go_simp
  refine (HHA.out w6 w7 g7 c7 (HK2.out.trans hS6 fun _ _ h => h) HM7.out).mono ?_
  rintro e w8 ⟨rfl, E8, hT8⟩
  have HT8 := H_ hT8; have HZ8 := H_ (hT8.keep.blk (hS6.blk HB2.out.2 fun h => h) HNE.out)
  refine hK.out _ _ ?_
  clear hK K
  try simp only [pu]
  refine wpAnyT_tail (i := 9) (o := ⟨none, _, _, _, _, _⟩) (by kernel_rfl) (by kernel_rfl) rfl (fun K hK => ?_)
  refine step_store_whole rfl 144 (.tmp 8) (.tmp 20) rfl DV rfl rfl HZ8.out (by rw [HDL.out]; simp) HIN.out HD1.out ?_
  refine hK.out _ _ ?_
  clear hK K
  try simp only [pu]
  refine wpAnyT_done (by kernel_rfl) ?_
  go_wp2
  refine bodyPost_ret (results_blk rfl _ _ rfl (HZ8.out.setRow DV) Tryz.underlying144 rfl HIN.out) rfl ⟨rfl, E8, ?_⟩
  exact rfin HT8.out (HK2.out.trans hS6 fun _ _ h => h) (hS6.blk HB2.out.2 fun h => h) HNE.out (by have := HNN.out; omega) _
theorem rmember_any {p : Nat} {E : Nat → Prop} {w : World} {l : List (List Int)} (hT : Tkg (RgSt p) E w l) (hl : l.length ≤ 1099511627776) (key : ByteArray) (hk : key.size ≤ 4194304) (d : List Int) (hrl : d.length = 32) (hrb : IsBytes d) :
  Calls Tryz.prog 124 #[.pointer (some ⟨p, 0, none⟩), .string key, .agg (vb d).toArray] w fun e w' => e = .returned (.agg (vb (memD key d)).toArray) ∧ ∃ E', Took (RgSt p) E E' w w' (l ++ [memT key d]) := by
 obtain ⟨X, hX⟩ : ∃ X, X = memT key d := ⟨_, rfl⟩
 have hX2 : X = 109 :: (Mac.rowF [Go.Json.sb key] ++ d) := by rw [hX]; rfl
 have hgd : memD key d = hsh X := by rw [hX]; rfl
 rw [hgd, ← hX]
 have hXB : IsBytes X := by
  rw [hX2]
  intro x hx
  rcases List.mem_cons.1 hx with rfl | hx
  ·omega
  ·exact (List.mem_append.1 hx).elim (rowF_bytes _ (sb_bytes _) x) (hrb x)
 obtain ⟨N0, hN0⟩ : ∃ N0, N0 = w.heap.size := ⟨_, rfl⟩
 obtain ⟨RV, hRV⟩ : ∃ RV, RV = vb d := ⟨_, rfl⟩
 have HRL : RV.length = 32 := by rw [hRV]; simp [vb, hrl]
 rw [← hRV]
 have HW2 : Hid (Keeps (fun _ => False) w ((w.alloc (.cells RV.toArray 144)).alloc (.cells (List.replicate 32 (Value.int .u8 0)).toArray 144)) ∧ Blk ((w.alloc (.cells RV.toArray 144)).alloc (.cells (List.replicate 32 (Value.int .u8 0)).toArray 144)) N0 144 RV ∧ Blk ((w.alloc (.cells RV.toArray 144)).alloc (.cells (List.replicate 32 (Value.int .u8 0)).toArray 144)) (N0 + 1) 144 (List.replicate 32 (Value.int .u8 0))) := H_ ⟨((Keeps.refl _ w).alloc _).alloc _, by rw [hN0]; exact (Blk.new _ _ _).alloc _, by
  have h := Blk.new (w.alloc (.cells RV.toArray 144)) 144 (List.replicate 32 (Value.int .u8 0))
  rwa [World.size_alloc, ← hN0] at h⟩
 obtain ⟨DV, hDV⟩ : ∃ DV, DV = vb (hsh X) := ⟨_, rfl⟩
 have HD1 : Hid (∀ u ∈ DV, u.oneCell' = true) := H_ (by rw [hDV]; exact vb_one _)
 have HDL : Hid (DV.length = 32) := H_ (by rw [hDV]; simp [vb, hsh_len])
 have HIN : Hid ((Tryz.prog.info? 144).map (·.size) = some DV.length) := H_ (infoRD DV HDL.out)
 have HIR : Hid ((Tryz.prog.info? 144).map (·.size) = some RV.length) := H_ (infoRD RV HRL)
 obtain ⟨N, hN⟩ : ∃ N, N = (Mac.rowF [Go.Json.sb key]).length := ⟨_, rfl⟩
 have hNb : N ≤ 16777216 ∧ 0 < N := by
  have h1 := Mac.rowF_le [Go.Json.sb key]
  simp only [List.flatten_cons, List.flatten_nil, List.append_nil, List.length_cons, List.length_nil, Go.Json.sb_len] at h1
  refine ⟨by omega, ?_⟩
  rw [hN, rowF_one]
  simp only [List.length_append, List.length_cons]
  omega
 have hcv : ∀ W, (convert 9 48 (.string key)).run Tryz.prog W = .ok (.slice (some ⟨W.heap.size, 0, none⟩) key.size (grownCap W key.size 0 5)) (Lib.bytesWorld W 5 key) := fun W => Lib.run_convert_string_bytes W _ _ 5 key Tryz.underlying9 Tryz.underlying48 Tryz.underlying5
 have HRO : Hid (∀ W g c, Keeps (fun _ => False) w W → Rd W (some ⟨g, 0, none⟩) key.size (vb (Go.Json.sb key)) → key.size ≤ c → Calls Tryz.prog 178 #[.slice (some ⟨W.heap.size, 0, none⟩) 1 1] (W.alloc (.cells #[.slice (some ⟨g, 0, none⟩) key.size c] 48)) fun e w' => ∃ A' c', e = .returned (.slice A' N c') ∧ Hid (Mine (W.alloc (.cells #[.slice (some ⟨g, 0, none⟩) key.size c] 48)) w' 5 A' N c' (vb (Mac.rowF [Go.Json.sb key])))) := H_ fun W g c hW hr hc => by
  have hp := parts_one (fun _ => False) W 48 (some ⟨g, 0, none⟩) key.size c (Go.Json.sb key) (fun _ h => h.elim) (Go.Json.sb_len _) hr (no_out _ _) (sb_bytes _) hc (by omega)
  exact (rrow_any _ _ 1 1 [Go.Json.sb key] N rfl hp (by omega) hN.symm hNb.1).mono fun e w' ⟨A', c', he, hm⟩ => ⟨A', c', he, H_ hm⟩
 have HLI : Hid (∀ W, Calls Tryz.prog 179 #[.agg RV.toArray] W fun e w' => ∃ A c', e = .returned (.slice A 32 c') ∧ Hid (Mine W w' 5 A 32 c' (vb d))) := H_ fun W => by rw [hRV]; exact rlist_any W d hrl
 obtain ⟨M, hM⟩ : ∃ M, M = 1 + N + 32 := ⟨_, rfl⟩
 have HJO : Hid (∀ W A c B d', Rd W A N (vb (Mac.rowF [Go.Json.sb key])) → Rd W B 32 (vb d) → Calls Tryz.prog 128 #[.int .u8 109, .slice A N c, .slice B 32 d'] W fun e w' => ∃ g c', e = .returned (.slice (some ⟨g, 0, none⟩) M c') ∧ Hid (Mine W w' 5 (some ⟨g, 0, none⟩) M c' (vb X))) := H_ fun W A c B d' h1 h2 => (rjoined_any W 109 A N c _ hN.symm h1 (by omega) B 32 d' d hrl h2 (by omega)).mono fun e w' ⟨g, c', h3, h4⟩ => ⟨g, c', by rw [hM]; exact h3, H_ (by rw [hX2, hM]; exact h4)⟩
 have HHA : Hid (∀ w6 w7 g c, Keeps (fun _ => False) w w6 → Mine w6 w7 5 (some ⟨g, 0, none⟩) M c (vb X) → Calls Tryz.prog 127 #[.pointer (some ⟨p, 0, none⟩), .slice (some ⟨g, 0, none⟩) M c] w7 fun e w' => e = .returned (.agg DV.toArray) ∧ ∃ E', Took (RgSt p) E E' w6 w' (l ++ [X])) := H_ fun w6 w7 g c h1 h2 => rhash_mine hT hl h1 hDV (by rw [hX2, hM]; simp only [List.length_cons, List.length_append, hrl, ← hN]; omega) (by omega) h2 hXB
 have HNE : Hid (¬ E (N0 + 1)) := H_ fun he => by have := hT.lt _ he; omega
 have HNN := H_ hN0
 have HKB := H_ (bytesW_rd (e := 5) (s := key))
 have HGC := H_ fun W => grownCap_ge W key.size 0 5
 rw [← hDV]
 clear hT hrb hRV hDV hX hX2 hgd hrl hN0 hN hNb hk hXB hM hl
 go_enter Tryz.func124, Tryz.ntmps124
 go_upto_region 1 with fail
 refine gen_codeF (fun W => Keeps (fun _ => False) w W ∧ Blk W N0 144 RV ∧ Blk W (N0 + 1) 144 (List.replicate 32 (Value.int .u8 0))) HW2.out ?_
 rintro w2 ⟨k2, b2, z2⟩
 have hNN := HNN.out
 rw [← hNN]
 clear hNN
 have HK2 := H_ k2
 have HB2 := H_ (And.intro b2 z2)
 clear k2 b2 z2
 refine wp_region_tail (S := (fun V => Keeps (fun _ => False) w2 V)) 7 (by kernel_rfl) (Keeps.refl _ _).drew (fun h_ => ?_)
 refine tJ 0 7 ?_
 try simp only [pu]
 refine tJ 1 8 ?_
 try simp only [pu]
 refine tT [5, 6, 7] (i := 5) (oi := ⟨some 12, _, _, _, _, _⟩) (v := _) rfl (yieldsIf_load_mid (by rfl) _ _ rfl _ _ rfl RV _ (fun w' h => rdg_rng (h.blk HB2.out.1 fun h => h)) Tryz.underlying144 rfl HIR.out) h_ ?_
 try simp only [pu]
 refine wpAnyT_step (i := 2) (o := ⟨some 9, _, _, _, _, _⟩) (by kernel_rfl) rfl (fun K hK => ?_)
 go_simp
 have hS2 := h_.trans (bytesW_keep w2.drew 5 key) (fun _ _ h => h)
 refine hK.out _ _ hS2 (fun h_ => ?_)
 clear hK K
 try simp only [pu]
 refine wpAnyT_step (i := 3) (o := ⟨some 10, _, _, _, _, _⟩) (by kernel_rfl) rfl (fun K hK => ?_)
 go_simp
 refine hK.out _ _ (h_.alloc _) (fun h_ => ?_)
 clear hK K
 try simp only [pu]
 refine wpAnyT_step (i := 4) (o := ⟨some 11, _, _, _, _, _⟩) (by kernel_rfl) rfl (fun K hK => ?_)
 go_simp
 refine (HRO.out (Lib.bytesWorld w2.drew 5 key) _ _ (HK2.out.trans hS2 fun _ _ h => h) (HKB.out w2.drew) (HGC.out _)).mono ?_
 rintro e w4 ⟨A4, c4, rfl, HM4⟩
 have hS4 := h_.trans HM4.out.2.1 (fun _ _ h => h)
 refine hK.out _ _ hS4 (fun h_ => ?_)
 clear hK K
 try simp only [pu]
 refine wpAnyT_step (i := 6) (o := ⟨some 13, _, _, _, _, _⟩) (by kernel_rfl) rfl (fun K hK => ?_)
 go_simp
 refine (HLI.out _).mono ?_
 rintro e w6 ⟨A6, c6, rfl, HE6⟩
 have hS6 := h_.trans HE6.out.2.1 (fun _ _ h => h)
 refine hK.out _ _ hS6 (fun h_ => ?_)
 clear hK K
 try simp only [pu]
 refine wpAnyT_tail (i := 7) (o := ⟨some 14, _, _, _, _, _⟩) (by kernel_rfl) (by kernel_rfl) rfl (fun K hK => ?_)
 go_simp
 refine (HJO.out w6 A4 c4 A6 c6 ((Rd.of_own HM4.out.1).keep HE6.out.2.1 (no_out _ _)) (Rd.of_own HE6.out.1)).mono ?_
 rintro e w7 ⟨g7, c7, rfl, HM7⟩
 refine hK.out _ _ ?_
 clear hK K
 try simp only [pu]
 refine wpAnyT_tail (i := 8) (o := ⟨some 15, _, _, _, _, _⟩) (by kernel_rfl) (by kernel_rfl) rfl (fun K hK => ?_)
 go_simp
 refine (HHA.out w6 w7 g7 c7 (HK2.out.trans hS6 fun _ _ h => h) HM7.out).mono ?_
 rintro e w8 ⟨rfl, E8, hT8⟩
 have HT8 := H_ hT8; have HZ8 := H_ (hT8.keep.blk (hS6.blk HB2.out.2 fun h => h) HNE.out)
 refine hK.out _ _ ?_
 clear hK K
 try simp only [pu]
 refine wpAnyT_tail (i := 9) (o := ⟨none, _, _, _, _, _⟩) (by kernel_rfl) (by kernel_rfl) rfl (fun K hK => ?_)
 refine step_store_whole rfl 144 (.tmp 6) (.tmp 15) rfl DV rfl rfl HZ8.out (by rw [HDL.out]; simp) HIN.out HD1.out ?_
 refine hK.out _ _ ?_
 clear hK K
 try simp only [pu]
 refine wpAnyT_done (by kernel_rfl) ?_
 go_wp2
 refine bodyPost_ret (results_blk rfl _ _ rfl (HZ8.out.setRow DV) Tryz.underlying144 rfl HIN.out) rfl ⟨rfl, E8, ?_⟩
 exact rfin HT8.out (HK2.out.trans hS6 fun _ _ h => h) (hS6.blk HB2.out.2 fun h => h) HNE.out (by have := HNN.out; omega) _
end Go.Proofs.YtplleficmkfniaaGreatDoor
