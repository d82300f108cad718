/- Texts. -/
import Derived.Test.YtdmcioghdindfaaGreatDoorL11
set_option linter.unusedSimpArgs false
set_option maxRecDepth 100000
set_option maxHeartbeats 4000000
namespace Go.Utf
inductive RL : List Int → List Int → Prop
 | nil : RL [] []
 | cons {l : List Int} {r : Int} {n : Nat} {rs : List Int} (h : atR l = some (r, n)) (ht : RL (l.drop n) rs) : RL l (r :: rs)
theorem rl_runes : ∀ (k : Nat) (l : List Int), l.length ≤ k → (runesR k l).2 = true → RL l (runesR k l).1
 | 0, l, h, _ => by
  have : l = [] := List.length_eq_zero_iff.1 (by omega)
  subst this
  exact .nil
 | k + 1, [], _, _ => .nil
 | k + 1, c :: l, h, ht => by
  cases ha : atR (c :: l) with
  | none => simp [runesR, ha] at ht
  | some p =>
   obtain ⟨x, n⟩ := p
   have hn := atR_len ha
   simp only [runesR, ha] at ht ⊢
   exact .cons ha (rl_runes k _ (by simp at h ⊢; omega) ht)
theorem rune_bound {l : List Int} {r : Int} {n : Nat} (hb : ∀ x ∈ l, 0 ≤ x) (h : atR l = some (r, n)) : 0 ≤ r ∧ r ≤ 1114111 := by
 rcases at_forms h with ⟨c, t, rfl, rfl, q1, rfl⟩ | ⟨c, d, t, rfl, rfl, q1, q2, q3, q4, rfl⟩ | ⟨c, d, e, t, rfl, rfl, q1, q2, q3, q4, q5, q6, q7, q8, rfl⟩ | ⟨c, d, e, f, t, rfl, rfl, q1, q2, q3, q4, q5, q6, q7, q8, q9, q10, rfl⟩
 ·have := hb r (List.mem_cons_self); omega
 ·omega
 ·omega
 omega
theorem RL.bound {l rs : List Int} (h : RL l rs) (hb : ∀ x ∈ l, 0 ≤ x) : ∀ r ∈ rs, 0 ≤ r ∧ r ≤ 1114111 := by
 induction h with
 | nil => intro r hr; cases hr
 | cons h ht ih =>
  intro r hr
  rcases List.mem_cons.1 hr with rfl | hr
  ·exact rune_bound hb h
  exact ih (fun x hx => hb x (List.mem_of_mem_drop hx)) r hr
theorem RL.len {l rs : List Int} (h : RL l rs) : rs.length ≤ l.length := by
 induction h with
 | nil => exact Nat.le_refl _
 | cons h ht ih =>
  have := atR_len h
  rw [List.length_drop] at ih
  simp only [List.length_cons]
  omega
end Go.Utf
namespace Go.Proofs.YtdmcioghdindfaaGreatDoor
open Go Go.RowKit Go.Aff Go.Utf Go.Json
theorem RdS.of_rd {w : World} {A : Option Addr} {n : Nat} {xs : List Value} (h : Rd w A n xs) : RdS 1 w A n xs := ⟨by rw [h.1, Nat.mul_one], fun hn => by rw [Nat.mul_one]; exact h.2 hn⟩
theorem RdS.rd {w : World} {A : Option Addr} {n : Nat} {xs : List Value} (h : RdS 1 w A n xs) : Rd w A n xs := ⟨by have := h.1; omega, fun hn => by have := h.2 hn; rw [Nat.mul_one] at this; exact this⟩
theorem MineS.rd {w wr : World} {e : TypeId} {A : Option Addr} {m c : Nat} {xs : List Value} (h : MineS 1 w wr e A m c xs) : Rd wr A m xs := Rd.of_own h.1
theorem sb_low (s : ByteArray) : ∀ x ∈ sb s, 0 ≤ x := by
 intro x hx
 unfold sb at hx
 obtain ⟨b, _, rfl⟩ := List.mem_map.1 hx
 omega
def runesS (s : ByteArray) : List Int := (runesR (sb s).length (sb s)).1
theorem runesS_rl {s : ByteArray} (h : rightS s = true) : RL (sb s) (runesS s) := rl_runes _ _ (Nat.le_refl _) h
def i32V (l : List Int) : List Value := l.map fun x => .int .i32 x
theorem rrunes_any (w : World) (s : ByteArray) (hs : s.size ≤ 1099511627776) (hr : rightS s = true) :
  Calls Tryz.prog 163 #[.string s] w fun e w' => ∃ A c v, e = .returned (.tuple #[.slice A (runesS s).length c, v]) ∧ Rd w' A (runesS s).length (i32V (runesS s)) ∧ Keeps (fun _ => False) w w' := by
 have HAT := H_ fun (W : World) (i : Nat) (h : i < s.size) => rat_any W s i h (by omega)
 have HR := H_ (runesS_rl hr)
 have HLE : Hid ((runesS s).length ≤ s.size) := H_ (by have := HR.out.len; rw [sb_len] at this; exact this)
 obtain ⟨all, hall⟩ : ∃ l, l = runesS s := ⟨_, rfl⟩
 rw [← hall] at HR HLE ⊢
 obtain ⟨m, hm⟩ : ∃ m, m = s.size := ⟨_, rfl⟩
 have hm' := hm.symm
 have hsm : m ≤ 1099511627776 := hm ▸ hs
 have HM := H_ hm
 clear hm hs hr hall
 go_enter Tryz.func163, Tryz.ntmps163
 go_upto_block 0 with fail
 go_wp2
 go_loopg [4, 5, 6] m (fun gk ra rb t wx => ∃ (i k : Nat) (A : Option Addr) (c : Nat) (B : Option Addr) (d : Nat) (done rest : List Int) (ys : List Value), i ≤ m ∧ k ≤ i ∧ ra = .slice A k c ∧ rb = .slice B k d ∧ t = .int .i64 i ∧ gk = m - i ∧
  Hid (Two w wx 21 1 A k c (i32V done) 3 1 B k d ys) ∧ Hid (all = done ++ rest ∧ RL ((sb s).drop i) rest ∧ k = done.length))
 case atStart => exact ⟨0, 0, none, 0, none, 0, [], all, [], by omega, by omega, rfl, rfl, rfl, rfl, H_ (Two.nil w _ _ 1 1), H_ ⟨rfl, by rw [List.drop_zero]; exact HR.out, rfl⟩⟩
 case round =>
  obtain ⟨i, k, A, c, B, d, done, rest, ys, him, hki, rfl, rfl, rfl, hgk, HT, HI⟩ := hrel
  have HGK := H_ hgk
  clear hgk
  by_cases hlt : i < m
  ·have HA := H_ (HAT.out wr i (by omega))
   have HX : Hid (∃ x n rest', rest = x :: rest' ∧ atR ((sb s).drop i) = some (x, n) ∧ 1 ≤ n ∧ i + n ≤ m ∧ RL ((sb s).drop (i + n)) rest') := H_ (by
    have hlen : i < (sb s).length := by rw [sb_len, hm']; exact hlt
    have h2 := HI.out.2.1
    generalize hL : (sb s).drop i = L at h2
    cases h2 with
    | nil => have := List.drop_eq_nil_iff.1 hL; omega
    | cons h ht =>
     rename_i x n rs
     have hl := atR_len h
     rw [← hL, List.length_drop, sb_len, hm'] at hl
     refine ⟨x, n, rs, rfl, h, hl.1, by omega, ?_⟩
     rw [← hL, List.drop_drop] at ht
     exact ht)
   obtain ⟨x, n, rest', hrest, hat, hn1, hin, hrl⟩ := HX.out
   unfold atV at HA
   rw [hat] at HA
   have HRL := H_ hrl
   have HRE := H_ hrest
   clear hat hrl hrest
   go_wp2_with (first
    | (go_at_call 139; refine HA.out.mono ?_; rintro e w3 ⟨rfl, hw3⟩; subst w3)
    | (at_builtin; refine wpList_append_two w _ rfl (.tmp 27) (.tmp 29) 277 rfl 21 (.int .i32 0) 1 4 Tryz.underlying277 (by kernel_rfl) rfl (by decide) rfl (HT.out.alloc _) _ 1 1 [.int .i32 x] rfl (RdS.blk (Blk.new wr 21 [.int .i32 x]) rfl) (by intro u hu; rw [List.mem_singleton.1 hu]; rfl) (by unfold maxLen; omega) (by omega) ?_; intro A4 c4 w4 ht4; have HT4 := H_ ht4; clear ht4)
    | (at_builtin; refine wpList_append_two w _ rfl (.tmp 31) (.tmp 33) 278 rfl 3 (.int .i64 0) 1 8 Tryz.underlying278 (by kernel_rfl) rfl (by decide) rfl (HT4.out.swap.alloc _) _ 1 1 [.int .i64 i] rfl (RdS.blk (Blk.new w4 3 [.int .i64 i]) rfl) (by intro u hu; rw [List.mem_singleton.1 hu]; rfl) (by unfold maxLen; omega) (by omega) ?_; intro B5 d5 w5 ht5; have HT5 := H_ ht5.swap; clear ht5))
   go_roundg (m - (i + n))
   case measure => rw [HGK.out]; omega
   case rel =>
    refine ⟨i + n, k + 1, A4, c4, B5, d5, done ++ [x], rest', ys ++ [.int .i64 i], by omega, by omega, rfl, rfl, by go_num, rfl, ?_, H_ ⟨?_, HRL.out, ?_⟩⟩
    ·unfold i32V at HT5 ⊢
     rw [List.map_append]
     exact HT5
    ·rw [HI.out.1, HRE.out]; simp
    rw [HI.out.2.2]; simp
  obtain rfl : i = m := by omega
  have HDN : Hid (done = all ∧ k = all.length) := H_ (by
   have h2 := HI.out.2.1
   rw [List.drop_eq_nil_of_le (by rw [sb_len, hm']; exact Nat.le_refl _)] at h2
   have hr : rest = [] := by
    cases h2 with
    | nil => rfl
    | cons h ht => cases h
   have := HI.out.1
   rw [hr, List.append_nil] at this
   exact ⟨this.symm, by rw [this]; exact HI.out.2.2⟩)
  go_wp2
  go_ret2
  obtain ⟨rfl, rfl⟩ := HDN.out
  exact ⟨_, _, _, rfl, MineS.rd HT.out.a, HT.out.a.2.1⟩
def u16V (l : List Int) : List Value := l.map fun x => .int .u16 x
def unitsTo (l : List Int) (j : Nat) : List Int := ((l.take j).map unitsOf).flatten
theorem unitsTo_next {l : List Int} {j : Nat} {r : Int} (h : l[j]? = some r) : unitsTo l (j + 1) = unitsTo l j ++ unitsOf r := by
 unfold unitsTo
 rw [List.take_add_one, h, List.map_append, List.flatten_append]
 simp
theorem unitsTo_all (s : ByteArray) : unitsTo (runesS s) (runesS s).length = unitsR (sb s) := by
 unfold unitsTo
 rw [List.take_length]
 rfl
theorem runes_bound {s : ByteArray} (h : rightS s = true) {j : Nat} {r : Int} (hj : (runesS s)[j]? = some r) : 0 ≤ r ∧ r ≤ 1114111 := (runesS_rl h).bound (sb_low s) r (List.mem_of_getElem? hj)
theorem runits_any (w : World) (s : ByteArray) (hs : s.size ≤ 1099511627776) (hr : rightS s = true) :
  Calls Tryz.prog 152 #[.string s] w fun e w' => ∃ A c, e = .returned (.slice A (unitsR (sb s)).length c) ∧ Rd w' A (unitsR (sb s)).length (u16V (unitsR (sb s))) ∧ Keeps (fun _ => False) w w' ∧ (unitsR (sb s)).length ≤ 2 * s.size := by
 have HRU := H_ (rrunes_any w s hs hr)
 have HRB : Hid (∀ (j : Nat) (r : Int), (runesS s)[j]? = some r → 0 ≤ r ∧ r ≤ 1114111) := H_ fun j r h => runes_bound hr h
 have HLE : Hid ((runesS s).length ≤ s.size) := H_ (by have := (runesS_rl hr).len; rw [sb_len] at this; exact this)
 have HUA := H_ (unitsTo_all s)
 obtain ⟨us, hus⟩ : ∃ l, l = unitsR (sb s) := ⟨_, rfl⟩
 rw [← hus] at HUA ⊢
 obtain ⟨all, hall⟩ : ∃ l, l = runesS s := ⟨_, rfl⟩
 rw [← hall] at HRU HRB HLE HUA
 obtain ⟨n, hn⟩ : ∃ n, n = all.length := ⟨_, rfl⟩
 rw [← hn] at HRU HLE HUA
 have hns : n ≤ s.size := HLE.out
 obtain ⟨m, hm⟩ : ∃ m, m = s.size := ⟨_, rfl⟩
 have HM := H_ hm
 rw [← hm] at hs hns
 rw [← hm]
 have HN := H_ hn
 clear hn hall hus hm hr
 go_enter Tryz.func152, Tryz.ntmps152
 go_upto_block 0 with (go_at_call 163; refine HRU.out.mono ?_; rintro e w1 ⟨A, c, v, rfl, hrd, hk1⟩; have HRD := H_ hrd; have HK1 := H_ hk1; clear hrd hk1)
 clear HRU
 go_wp2
 go_loopg [3, 6] n (fun gk ra t wx => ∃ (j k : Nat) (U : Option Addr) (d : Nat), j ≤ n ∧ k ≤ 2 * j ∧ ra = .slice U k d ∧ t = .int .i64 j ∧ gk = n - j ∧ Hid (MineS 1 w1 wx 265 U k d (u16V (unitsTo all j))) ∧ Hid (k = (unitsTo all j).length))
 case atStart => exact ⟨0, 0, none, 0, by omega, by omega, rfl, rfl, rfl, H_ (by have := MineS.nil 1 w1 265; exact this), H_ rfl⟩
 case round =>
  obtain ⟨j, k, U, d, hjn, hkj, rfl, rfl, hgk, HU, HKL⟩ := hrel
  have HGK := H_ hgk
  clear hgk
  by_cases hlt : j < n
  ·obtain ⟨g, o, hA, hc⟩ := (HRD.out.keep HU.out.2.1 (fun _ _ _ h => h)).2 (by omega)
   subst hA
   obtain ⟨r, hr⟩ : ∃ r, all[j]? = some r := ⟨_, List.getElem?_eq_getElem (by have := HN.out; omega)⟩
   obtain ⟨hr0, hr1⟩ := HRB.out j r hr
   have hcell : wr.cell? ⟨g, o + j, none⟩ = some (.int .i32 r) := by
    rw [hc j hlt]
    unfold i32V
    rw [List.getElem?_map, hr]
    rfl
   have HNX := H_ (unitsTo_next hr)
   clear hr hc
   by_cases hlow : r < 65536
   ·have HUO : Hid (unitsOf r = [r]) := H_ (if_pos hlow)
    go_wp2_with (at_builtin; refine wpList_append_mine w1 _ rfl (.tmp 26) (.tmp 29) 263 rfl 265 (.int .u16 0) 1 2 Tryz.underlying263 (by kernel_rfl) rfl (by decide) rfl (HU.out.alloc _) _ 1 1 [.int .u16 r] rfl (RdS.blk (Blk.new wr 265 [.int .u16 r]) rfl) (by intro u hu; rw [List.mem_singleton.1 hu]; rfl) (by unfold maxLen; omega) (by omega) ?_; intro A4 c4 w4 ht4; have HT4 := H_ ht4; clear ht4)
    go_roundg (n - (j + 1))
    case measure => rw [HGK.out]; omega
    case rel =>
     refine ⟨j + 1, k + 1, A4, c4, by omega, by omega, rfl, by go_num, rfl, ?_, H_ (by rw [HNX.out, HUO.out, HKL.out]; simp)⟩
     rw [HNX.out, HUO.out]
     unfold u16V at HT4 ⊢
     rw [List.map_append]
     exact HT4
   have HUO : Hid (unitsOf r = [55296 + (r - 65536) / 1024, 56320 + (r - 65536) % 1024]) := H_ (if_neg hlow)
   obtain ⟨q, hq⟩ : ∃ q : Int, q = (r - 65536) / 1024 := ⟨_, rfl⟩
   obtain ⟨z, hz⟩ : ∃ z : Int, z = (r - 65536) % 1024 := ⟨_, rfl⟩
   have hqt : (r - 65536).tdiv 1024 = q := by rw [Int.tdiv_eq_ediv_of_nonneg (by omega)]; exact hq.symm
   have hzt : (r - 65536).tmod 1024 = z := by rw [Int.tmod_eq_emod_of_nonneg (by omega)]; exact hz.symm
   obtain ⟨hq0, hq1⟩ : 0 ≤ q ∧ q < 1024 := by omega
   obtain ⟨hz0, hz1⟩ : 0 ≤ z ∧ z < 1024 := by omega
   rw [← hq, ← hz] at HUO
   clear hq hz
   go_wp2_with (at_builtin; refine wpList_append_mine w1 _ rfl (.tmp 31) (.tmp 42) 263 rfl 265 (.int .u16 0) 1 2 Tryz.underlying263 (by kernel_rfl) rfl (by decide) rfl (HU.out.alloc _) _ 2 2 [.int .u16 (55296 + q), .int .u16 (56320 + z)] rfl (RdS.blk (Blk.new wr 265 [.int .u16 (55296 + q), .int .u16 (56320 + z)]) rfl) (by intro u hu; rcases List.mem_cons.1 hu with rfl | hu; rfl; rw [List.mem_singleton.1 hu]; rfl) (by unfold maxLen; omega) (by omega) ?_; intro A4 c4 w4 ht4; have HT4 := H_ ht4; clear ht4)
   go_roundg (n - (j + 1))
   case measure => rw [HGK.out]; omega
   case rel =>
    refine ⟨j + 1, k + 2, A4, c4, by omega, by omega, rfl, by go_num, rfl, ?_, H_ (by rw [HNX.out, HUO.out, HKL.out]; simp)⟩
    rw [HNX.out, HUO.out]
    unfold u16V at HT4 ⊢
    rw [List.map_append]
    exact HT4
  obtain rfl : j = n := by omega
  have HE : Hid (unitsTo all j = us) := HUA
  rw [HE.out] at HU HKL
  go_wp2
  go_ret
  obtain rfl := HKL.out
  exact ⟨_, _, rfl, MineS.rd HU.out, HK1.out.trans HU.out.2.1 (fun _ _ h => h), by omega⟩
theorem lex_at {a b : List Int} {j : Nat} {x y : Int} (h : a.take j = b.take j) (ha : a[j]? = some x) (hb : b[j]? = some y) (hne : x ≠ y) : lexR a b = if x < y then -1 else 1 := by
 obtain ⟨h1, e1⟩ := List.getElem?_eq_some_iff.1 ha
 obtain ⟨h2, e2⟩ := List.getElem?_eq_some_iff.1 hb
 have x1 : a = a.take j ++ (x :: a.drop (j + 1)) := by rw [← e1, ← List.drop_eq_getElem_cons h1, List.take_append_drop]
 have x2 : b = a.take j ++ (y :: b.drop (j + 1)) := by rw [h, ← e2, ← List.drop_eq_getElem_cons h2, List.take_append_drop]
 have x3 : lexR a b = lexR (a.take j ++ (x :: a.drop (j + 1))) (a.take j ++ (y :: b.drop (j + 1))) := by rw [← x1, ← x2]
 rw [x3, lex_self_append]
 by_cases hl : x < y
 ·rw [lex_lt _ _ hl, if_pos hl]
 rw [lex_gt _ _ (by omega), if_neg hl]
theorem lex_end {a b : List Int} {j : Nat} (h : a.take j = b.take j) (ha : j ≤ a.length) (hb : j ≤ b.length) (he : j = a.length ∨ j = b.length) : lexR a b = cmpI a.length b.length := by
 have x1 : a = a.take j ++ a.drop j := (List.take_append_drop j a).symm
 have x2 : b = a.take j ++ b.drop j := by rw [h, List.take_append_drop]
 have x3 : lexR a b = lexR (a.take j ++ a.drop j) (a.take j ++ b.drop j) := by rw [← x1, ← x2]
 rw [x3, lex_self_append]
 have la : (a.drop j).length = a.length - j := List.length_drop
 have lb : (b.drop j).length = b.length - j := List.length_drop
 unfold cmpI
 rcases hda : a.drop j with _ | ⟨p, l⟩ <;> rcases hdb : b.drop j with _ | ⟨q, r⟩ <;> rw [hda] at la <;> rw [hdb] at lb <;> simp at la lb
 ·rw [if_neg (by omega), if_neg (by omega)]; rfl
 ·rw [if_pos (by omega)]; rfl
 ·rw [if_neg (by omega), if_pos (by omega)]; rfl
 omega
structure TwoAt (w W : World) (p q : Addr) (x y : Value) : Prop where
 keep : Keeps (fun _ => False) w W
 c1 : W.cell? p = some x
 c2 : W.cell? q = some y
theorem TwoAt.stay {w W W' : World} {p q : Addr} {x y : Value} (h : TwoAt w W p q x y) (k : Keeps (fun _ => False) W W') : TwoAt w W' p q x y := ⟨h.keep.trans k (fun _ _ h => h), cell_keep k h.c1, cell_keep k h.c2⟩
theorem rcompare_any (w : World) (a b : ByteArray) (ha : rightS a = true) (hb : rightS b = true) (hsa : a.size ≤ 1099511627776) (hsb : b.size ≤ 1099511627776) :
  Calls Tryz.prog 136 #[.string a, .string b] w fun e w' => e = .returned (.int .i64 (lexR (unitsR (sb a)) (unitsR (sb b)))) ∧ Keeps (fun _ => False) w w' := by
 have HRA := H_ fun W => rright_any W a (by omega)
 have HRB := H_ fun W => rright_any W b (by omega)
 rw [ha] at HRA
 rw [hb] at HRB
 have HUA := H_ fun W => runits_any W a hsa ha
 have HUB := H_ fun W => runits_any W b hsb hb
 obtain ⟨us, hus⟩ : ∃ l, l = unitsR (sb a) := ⟨_, rfl⟩
 obtain ⟨vs, hvs⟩ : ∃ l, l = unitsR (sb b) := ⟨_, rfl⟩
 rw [← hus] at HUA ⊢
 rw [← hvs] at HUB ⊢
 obtain ⟨n, hn⟩ : ∃ n, n = us.length := ⟨_, rfl⟩
 obtain ⟨m, hm⟩ : ∃ m, m = vs.length := ⟨_, rfl⟩
 rw [← hn] at HUA
 rw [← hm] at HUB
 have HN := H_ (And.intro hn hm)
 have HSA := H_ (And.intro hsa hsb)
 have tk : True := trivial
 have tk2 : True := trivial
 clear ha hb hus hvs hn hm hsa hsb
 go_enter Tryz.func136, Tryz.ntmps136
 go_upto_block 0 with (first
  | (go_at_call 93; have _t := tk; clear tk; refine (HRA.out _).mono ?_; rintro e w1 ⟨rfl, hw1⟩; subst w1; clear _t)
  | (go_at_call 93; refine (HRB.out _).mono ?_; rintro e w1 ⟨rfl, hw1⟩; subst w1)
  | (go_at_call 152; have _t := tk2; clear tk2; refine (HUA.out _).mono ?_; rintro e w1 ⟨A, c, rfl, hrd1, hk1, hl1⟩; have HRD1 := H_ hrd1; have HK1 := H_ hk1; have HL1 := H_ hl1; clear hrd1 hk1 hl1 _t)
  | (go_at_call 152; refine (HUB.out _).mono ?_; rintro e w2 ⟨B, d, rfl, hrd2, hk2, hl2⟩; have HRD2 := H_ hrd2; have HK2 := H_ hk2; have HL2 := H_ hl2; clear hrd2 hk2 hl2))
 go_wp2
 have HK12 := H_ (HK1.out.trans HK2.out (fun _ _ h => h))
 have HRD1' := H_ (HRD1.out.keep HK2.out (fun _ _ _ h => h))
 clear HRA HRB HUA HUB HK1 HRD1 HK2
 have hnb : n ≤ 2199023255552 := by have := HL1.out; have := HSA.out.1; omega
 have hmb : m ≤ 2199023255552 := by have := HL2.out; have := HSA.out.2; omega
 clear HL1 HL2 HSA
 go_loopg [9] n (fun gk t wx => ∃ j : Nat, j ≤ n ∧ j ≤ m ∧ t = .int .i64 j ∧ gk = n - j ∧ Hid (Keeps (fun _ => False) w2 wx ∧ us.take j = vs.take j))
 case atStart => exact ⟨0, by omega, by omega, rfl, by omega, H_ ⟨Keeps.refl _ _, by simp⟩⟩
 case round =>
  obtain ⟨j, hjn, hjm, rfl, hgk, HI⟩ := hrel
  have HGK := H_ hgk
  clear hgk
  by_cases h1 : j < n
  ·by_cases h2 : j < m
   ·obtain ⟨g1, o1, hA, hc1⟩ := (HRD1'.out.keep HI.out.1 (fun _ _ _ h => h)).2 (by omega)
    obtain ⟨g2, o2, hB, hc2⟩ := (HRD2.out.keep HI.out.1 (fun _ _ _ h => h)).2 (by omega)
    subst hA hB
    obtain ⟨x, hx⟩ : ∃ x, us[j]? = some x := ⟨_, List.getElem?_eq_getElem (by have := HN.out.1; omega)⟩
    obtain ⟨y, hy⟩ : ∃ y, vs[j]? = some y := ⟨_, List.getElem?_eq_getElem (by have := HN.out.2; omega)⟩
    have HCC : Hid (TwoAt wr wr ⟨g1, o1 + j, none⟩ ⟨g2, o2 + j, none⟩ (.int .u16 x) (.int .u16 y)) := H_ ⟨Keeps.refl _ _, by rw [hc1 j h1]; unfold u16V; rw [List.getElem?_map, hx]; rfl, by rw [hc2 j h2]; unfold u16V; rw [List.getElem?_map, hy]; rfl⟩
    have HX := H_ (And.intro hx hy)
    clear hx hy hc1 hc2
    have hna : decide ((j : Int) < (n : Int)) = true := decide_eq_true (by omega)
    have hnb' : decide ((j : Int) < (m : Int)) = true := decide_eq_true (by omega)
    by_cases hlt : x < y
    ·have HF := H_ (lex_at HI.out.2 HX.out.1 HX.out.2 (by omega))
     rw [if_pos hlt] at HF
     have hd : decide (x < y) = true := decide_eq_true hlt
     clear hlt
     go_upto_region 12 with fail
     refine wp_region_held_drew (S := fun W => TwoAt wr W ⟨g1, o1 + j, none⟩ ⟨g2, o2 + j, none⟩ (.int .u16 x) (.int .u16 y)) (by kernel_rfl) (HCC.out.stay (Keeps.refl _ _).drew) (fun h_ => ?_)
     refine tI 0 45 h_ ?_
     try simp only [pu]
     refine tI 1 46 h_ ?_
     try simp only [pu]
     refine tI 2 47 h_ ?_
     try simp only [pu]
     refine tI 3 48 h_ ?_ (hy := .inl ⟨by rfl, by intro w' hSw; have cv := hSw.c1; go_simp; first | done | rfl⟩)
     try simp only [pu]
     refine tI 4 49 h_ ?_
     try simp only [pu]
     refine tI 5 50 h_ ?_
     try simp only [pu]
     refine tI 6 51 h_ ?_
     try simp only [pu]
     refine tI 7 52 h_ ?_ (hy := .inl ⟨by rfl, by intro w' hSw; have cv := hSw.c2; go_simp; first | done | rfl⟩)
     try simp only [pu]
     refine tI 8 53 h_ ?_
     try simp only [pu]
     refine wpAnyH_done (by kernel_rfl) ?_ _
     have HK3 := H_ h_
     clear h_
     go_wp2
     go_ret
     exact ⟨by rw [HF.out]; rfl, HK12.out.trans (HI.out.1.trans HK3.out.keep (fun _ _ h => h)) (fun _ _ h => h)⟩
    have hd : decide (x < y) = false := decide_eq_false hlt
    go_upto_region 12 with fail
    refine wp_region_held_drew (S := fun W => TwoAt wr W ⟨g1, o1 + j, none⟩ ⟨g2, o2 + j, none⟩ (.int .u16 x) (.int .u16 y)) (by kernel_rfl) (HCC.out.stay (Keeps.refl _ _).drew) (fun h_ => ?_)
    refine tI 0 45 h_ ?_
    try simp only [pu]
    refine tI 1 46 h_ ?_
    try simp only [pu]
    refine tI 2 47 h_ ?_
    try simp only [pu]
    refine tI 3 48 h_ ?_ (hy := .inl ⟨by rfl, by intro w' hSw; have cv := hSw.c1; go_simp; first | done | rfl⟩)
    try simp only [pu]
    refine tI 4 49 h_ ?_
    try simp only [pu]
    refine tI 5 50 h_ ?_
    try simp only [pu]
    refine tI 6 51 h_ ?_
    try simp only [pu]
    refine tI 7 52 h_ ?_ (hy := .inl ⟨by rfl, by intro w' hSw; have cv := hSw.c2; go_simp; first | done | rfl⟩)
    try simp only [pu]
    refine tI 8 53 h_ ?_
    try simp only [pu]
    refine wpAnyH_done (by kernel_rfl) ?_ _
    clear h_
    by_cases hgt : y < x
    ·have HF := H_ (lex_at HI.out.2 HX.out.1 HX.out.2 (by omega))
     rw [if_neg hlt] at HF
     have hd2 : decide (y < x) = true := decide_eq_true hgt
     clear hlt hgt
     go_upto_region 14 with fail
     refine wp_region_held_drew (S := fun W => TwoAt wr W ⟨g1, o1 + j, none⟩ ⟨g2, o2 + j, none⟩ (.int .u16 x) (.int .u16 y)) (by kernel_rfl) (HCC.out.stay (Keeps.refl _ _).drew.drew) (fun h_ => ?_)
     refine tI 0 54 h_ ?_
     try simp only [pu]
     refine tI 1 55 h_ ?_
     try simp only [pu]
     refine tI 2 56 h_ ?_
     try simp only [pu]
     refine tI 3 57 h_ ?_ (hy := .inl ⟨by rfl, by intro w' hSw; have cv := hSw.c1; go_simp; first | done | rfl⟩)
     try simp only [pu]
     refine tI 4 58 h_ ?_
     try simp only [pu]
     refine tI 5 59 h_ ?_
     try simp only [pu]
     refine tI 6 60 h_ ?_
     try simp only [pu]
     refine tI 7 61 h_ ?_ (hy := .inl ⟨by rfl, by intro w' hSw; have cv := hSw.c2; go_simp; first | done | rfl⟩)
     try simp only [pu]
     refine tI 8 62 h_ ?_
     try simp only [pu]
     refine wpAnyH_done (by kernel_rfl) ?_ _
     have HK3 := H_ h_
     clear h_
     go_wp2
     go_ret
     exact ⟨by rw [HF.out]; rfl, HK12.out.trans (HI.out.1.trans HK3.out.keep (fun _ _ h => h)) (fun _ _ h => h)⟩
    have hd2 : decide (y < x) = false := decide_eq_false hgt
    have HT : Hid (us.take (j + 1) = vs.take (j + 1)) := H_ (by
     rw [List.take_add_one, List.take_add_one, HI.out.2, HX.out.1, HX.out.2, show x = y by omega])
    clear hlt hgt
    go_upto_region 14 with fail
    refine wp_region_held_drew (S := fun W => TwoAt wr W ⟨g1, o1 + j, none⟩ ⟨g2, o2 + j, none⟩ (.int .u16 x) (.int .u16 y)) (by kernel_rfl) (HCC.out.stay (Keeps.refl _ _).drew.drew) (fun h_ => ?_)
    refine tI 0 54 h_ ?_
    try simp only [pu]
    refine tI 1 55 h_ ?_
    try simp only [pu]
    refine tI 2 56 h_ ?_
    try simp only [pu]
    refine tI 3 57 h_ ?_ (hy := .inl ⟨by rfl, by intro w' hSw; have cv := hSw.c1; go_simp; first | done | rfl⟩)
    try simp only [pu]
    refine tI 4 58 h_ ?_
    try simp only [pu]
    refine tI 5 59 h_ ?_
    try simp only [pu]
    refine tI 6 60 h_ ?_
    try simp only [pu]
    refine tI 7 61 h_ ?_ (hy := .inl ⟨by rfl, by intro w' hSw; have cv := hSw.c2; go_simp; first | done | rfl⟩)
    try simp only [pu]
    refine tI 8 62 h_ ?_
    try simp only [pu]
    refine wpAnyH_done (by kernel_rfl) ?_ _
    have HK3 := H_ h_
    clear h_
    go_wp2
    go_roundg (n - (j + 1))
    case measure => rw [HGK.out]; omega
    case rel => exact ⟨j + 1, by omega, by omega, by go_num, rfl, H_ ⟨HI.out.1.trans HK3.out.keep (fun _ _ h => h), HT.out⟩⟩
   have hna : decide ((j : Int) < (n : Int)) = true := decide_eq_true (by omega)
   have hnb' : decide ((j : Int) < (m : Int)) = false := decide_eq_false (by omega)
   obtain rfl : m = j := by omega
   have HF := H_ (lex_end HI.out.2 (by have := HN.out.1; omega) (by have := HN.out.2; omega) (by have := HN.out.2; omega))
   rw [← HN.out.1, ← HN.out.2] at HF
   have HC : Hid (cmpI n m = 1) := H_ (by unfold cmpI; rw [if_neg (by omega), if_pos (by omega)])
   go_wp2
   go_ret
   exact ⟨by rw [HF.out, HC.out]; rfl, HK12.out.trans HI.out.1 (fun _ _ h => h)⟩
  have hna : decide ((j : Int) < (n : Int)) = false := decide_eq_false (by omega)
  obtain rfl : n = j := by omega
  have HF := H_ (lex_end HI.out.2 (by have := HN.out.1; omega) (by have := HN.out.2; omega) (by have := HN.out.1; omega))
  rw [← HN.out.1, ← HN.out.2] at HF
  by_cases h3 : n < m
  ·have HC : Hid (cmpI n m = -1) := H_ (by unfold cmpI; rw [if_pos (by omega)])
   go_wp2
   go_ret
   exact ⟨by rw [HF.out, HC.out]; rfl, HK12.out.trans HI.out.1 (fun _ _ h => h)⟩
  have HC : Hid (cmpI n m = 0) := H_ (by unfold cmpI; rw [if_neg (by omega), if_neg (by omega)])
  go_wp2
  go_ret
  exact ⟨by rw [HF.out, HC.out]; rfl, HK12.out.trans HI.out.1 (fun _ _ h => h)⟩
end Go.Proofs.YtdmcioghdindfaaGreatDoor
namespace Go.Proofs.YtdmcioghdindfaaGreatDoor
open Go Go.RowKit Go.Aff Go.Json
theorem rused_walk (w : World) (so : Int) (fl : Bool) (bi : Nat) (tx : ByteArray) (cn : Int) (A : Option Addr) (n c : Nat) (l1 g6 n0 n2 n3 n4 e5 e6 nb te cz nz : Bool)
  (h1 : decide (so < 1) = l1) (h2 : decide (6 < so) = g6) (h3 : decide (0 ≤ cn) = n0) (k2 : (so != 2) = n2) (k3 : (so != 3) = n3) (k4 : (so != 4) = n4) (k5 : (so == 5) = e5) (k6 : (so == 6) = e6)
  (hz : ((bi : Int) != 0) = nb) (he : tx.toList.isEmpty = te) (hc : (cn == 0) = cz) (hn : ((n : Int) == 0) = nz) :
  Calls Tryz.prog 91 #[.agg #[.int .i64 so, .bool fl, .int .u64 bi, .string tx, .int .i64 cn, .slice A n c]] w fun e w' => e = .returned (.bool (!(l1 || g6) && !((n2 && fl) || (n3 && nb) || (n4 && !te)) && (((e5 || cz) && (e6 || nz)) && n0))) ∧ Keeps (fun _ => False) w w' := by
 have hb := Blk.new w 65 [.int .i64 so, .bool fl, .int .u64 bi, .string tx, .int .i64 cn, .slice A n c]
 have c0 := hb.cell 0
 have c1 := hb.cell 1
 have c2 := hb.cell 2
 have c3 := hb.cell 3
 have c4 := hb.cell 4
 have c5 := hb.cell 5
 have HK := H_ ((Keeps.refl (fun _ => False) w).alloc (.cells #[.int .i64 so, .bool fl, .int .u64 bi, .string tx, .int .i64 cn, .slice A n c] 65))
 clear hb
 go_enter Tryz.func91, Tryz.ntmps91
 rcases l1 with _ | _
 ·rcases g6 with _ | _
  ·go_upto_region 3 with fail
   go_cut [1, 37] (fun t u wx => t = .pointer (some ⟨w.heap.size, 0, none⟩) ∧ u = .bool ((n2 && fl) || (n3 && nb) || (n4 && !te)) ∧ wx = w.alloc (.cells #[.int .i64 so, .bool fl, .int .u64 bi, .string tx, .int .i64 cn, .slice A n c] 65))
   case first =>
    clear k5 k6 hc hn h1 h2 h3
    rcases n2 with _ | _
    ·rcases n3 with _ | _
     ·rcases n4 with _ | _
      ·go_wp2
       go_meet
       exact ⟨rfl, rfl, rfl⟩
      rcases te with _ | _
      ·go_wp2
       go_meet
       exact ⟨rfl, rfl, rfl⟩
      go_wp2
      go_meet
      exact ⟨rfl, rfl, rfl⟩
     rcases nb with _ | _
     ·rcases n4 with _ | _
      ·go_wp2
       go_meet
       exact ⟨rfl, rfl, rfl⟩
      rcases te with _ | _
      ·go_wp2
       go_meet
       exact ⟨rfl, rfl, rfl⟩
      go_wp2
      go_meet
      exact ⟨rfl, rfl, rfl⟩
     go_wp2
     go_meet
     exact ⟨rfl, rfl, rfl⟩
    rcases fl with _ | _
    ·rcases n3 with _ | _
     ·rcases n4 with _ | _
      ·go_wp2
       go_meet
       exact ⟨rfl, rfl, rfl⟩
      rcases te with _ | _
      ·go_wp2
       go_meet
       exact ⟨rfl, rfl, rfl⟩
      go_wp2
      go_meet
      exact ⟨rfl, rfl, rfl⟩
     rcases nb with _ | _
     ·rcases n4 with _ | _
      ·go_wp2
       go_meet
       exact ⟨rfl, rfl, rfl⟩
      rcases te with _ | _
      ·go_wp2
       go_meet
       exact ⟨rfl, rfl, rfl⟩
      go_wp2
      go_meet
      exact ⟨rfl, rfl, rfl⟩
     go_wp2
     go_meet
     exact ⟨rfl, rfl, rfl⟩
    go_wp2
    go_meet
    exact ⟨rfl, rfl, rfl⟩
   case rest =>
    obtain ⟨rfl, rfl, rfl⟩ := hcut
    obtain ⟨x, hx⟩ : ∃ x, x = ((n2 && fl) || (n3 && nb) || (n4 && !te)) := ⟨_, rfl⟩
    rw [← hx]
    have HX := H_ hx
    clear hx k2 k3 k4 hz he h1 h2
    rcases x with _ | _
    rotate_left
    ·go_wp2
     go_ret
     exact ⟨by rw [← HX.out]; rfl, HK.out⟩
    go_upto_region 5 with fail
    rcases e5 with _ | _
    ·rcases cz with _ | _
     ·go_wp2
      go_ret
      exact ⟨by rw [← HX.out]; rfl, HK.out⟩
     rcases e6 with _ | _
     ·rcases nz with _ | _
      ·go_wp2
       go_ret
       exact ⟨by rw [← HX.out]; rfl, HK.out⟩
      rcases n0 with _ | _
      ·go_wp2
       go_ret
       exact ⟨by rw [← HX.out]; rfl, HK.out⟩
      go_wp2
      go_ret
      exact ⟨by rw [← HX.out]; rfl, HK.out⟩
     rcases n0 with _ | _
     ·go_wp2
      go_ret
      exact ⟨by rw [← HX.out]; rfl, HK.out⟩
     go_wp2
     go_ret
     exact ⟨by rw [← HX.out]; rfl, HK.out⟩
    rcases e6 with _ | _
    ·rcases nz with _ | _
     ·go_wp2
      go_ret
      exact ⟨by rw [← HX.out]; rfl, HK.out⟩
     rcases n0 with _ | _
     ·go_wp2
      go_ret
      exact ⟨by rw [← HX.out]; rfl, HK.out⟩
     go_wp2
     go_ret
     exact ⟨by rw [← HX.out]; rfl, HK.out⟩
    rcases n0 with _ | _
    ·go_wp2
     go_ret
     exact ⟨by rw [← HX.out]; rfl, HK.out⟩
    go_wp2
    go_ret
    exact ⟨by rw [← HX.out]; rfl, HK.out⟩
  go_wp2
  go_ret
  exact ⟨rfl, HK.out⟩
 go_wp2
 go_ret
 exact ⟨rfl, HK.out⟩
theorem rused_any (w : World) (s : StepV) (A : Option Addr) (c : Nat) : Calls Tryz.prog 91 #[.agg (stepV s A c).toArray] w fun e w' => e = .returned (.bool (usedF s)) ∧ Keeps (fun _ => False) w w' := by
 obtain ⟨so, fl, bi, tx, cn, ks⟩ := s
 have h := rused_walk w so fl bi tx cn A ks.length c _ _ _ _ _ _ _ _ _ _ _ _ rfl rfl rfl rfl rfl rfl rfl rfl rfl (str_empty tx) rfl rfl
 refine h.mono fun e w' hh => ⟨hh.1.trans ?_, hh.2⟩
 clear h hh
 congr 2
 have hi : ∀ a b : Int, (a == b) = decide (a = b) := fun a b => by rw [Bool.eq_iff_iff]; simp
 have hne : ∀ a b : Int, (a != b) = !decide (a = b) := fun a b => by rw [Bool.eq_iff_iff]; simp
 have h1 : decide ((bi : Int) = 0) = decide (bi = 0) := by simp
 have h2 : decide ((ks.length : Int) = 0) = decide (ks.length = 0) := by rw [Bool.eq_iff_iff]; simp
 have h3 : decide (so < 1) = !decide (1 ≤ so) := by rw [Bool.eq_iff_iff]; simp
 have h4 : decide (6 < so) = !decide (so ≤ 6) := by rw [Bool.eq_iff_iff]; simp
 simp only [usedF, hi, hne, h1, h2, h3, h4]
 generalize decide (1 ≤ so) = a1
 generalize decide (so ≤ 6) = a2
 generalize decide (so = 2) = a3
 generalize decide (so = 3) = a4
 generalize decide (so = 4) = a5
 generalize decide (so = 5) = a6
 generalize decide (so = 6) = a7
 generalize decide (bi = 0) = a8
 generalize decide (tx.size = 0) = a9
 generalize decide (cn = 0) = b1
 generalize decide (ks.length = 0) = b2
 generalize decide (0 ≤ cn) = b3
 cases a1 <;> cases a2 <;> cases a3 <;> cases a4 <;> cases a5 <;> simp <;> (revert fl a6 a7 a8 a9 b1 b2 b3; decide)
theorem bits_low (b : Nat) (hb : b < 18446744073709551616) : bits BinOp.and IntKind.u64 ((b : Int) / 4503599627370496) 2047 = ((b / 4503599627370496 % 2048 : Nat) : Int) := by
 have h1 : (b : Int) / 4503599627370496 = ((b / 4503599627370496 : Nat) : Int) := by omega
 rw [h1]
 generalize hq : b / 4503599627370496 = q
 have hq2 : q < 18446744073709551616 := by omega
 show IntKind.u64.wrap ((BitVec.ofInt 64 (q : Int) &&& BitVec.ofInt 64 2047).toNat : Int) = _
 have h2 : q &&& 2047 = q % 2048 := Nat.and_two_pow_sub_one_eq_mod q 11
 rw [BitVec.toNat_and, BitVec.ofInt_natCast, BitVec.toNat_ofNat, Nat.mod_eq_of_lt (by omega), show (BitVec.ofInt 64 2047).toNat = 2047 from rfl, h2]
 show ((q % 2048 : Nat) : Int) % 18446744073709551616 = _
 omega
theorem rfinite_any (w : World) (b : Nat) (hb : b < 18446744073709551616) : Calls Tryz.prog 92 #[.int .u64 b] w fun e w' => e = .returned (.bool (finiteF b)) ∧ w' = w := by
 go_enter Tryz.func92, Tryz.ntmps92
 go_wp2
 go_ret
 refine ⟨?_, rfl⟩
 show Ending.returned (.bool (bits BinOp.and IntKind.u64 ((b : Int) / 4503599627370496) 2047 != 2047)) = _
 rw [bits_low b hb]
 unfold finiteF
 congr 2
 rw [Bool.eq_iff_iff]
 simp
 omega
def numV (b : Nat) : Nat := if b = 9223372036854775808 then 0 else b
theorem rnum_any (w : World) (b : Nat) : Calls Tryz.prog 96 #[.int .u64 b] w fun e w' => e = .returned (.agg (refC (.num (numV b)) none 0 none 0).toArray) ∧ Keeps (fun _ => False) w w' := by
 have hb := Blk.new w 31 [.int .i64 0, .bool false, .int .u64 0, .string .empty, .slice none 0 0, .slice none 0 0]
 have f0 := hb.frozen 0
 have f1 := hb.frozen 1
 have f2 := hb.frozen 2
 have f3 := hb.frozen 3
 have f4 := hb.frozen 4
 have f5 := hb.frozen 5
 have HK := H_ fun vs => (Keeps.refl (fun _ => False) w).alloc (.cells vs 31)
 have HR := H_ fun vs => Blk.new w 31 vs
 clear hb
 by_cases h : b = 9223372036854775808
 ·subst h
  go_enter Tryz.func96, Tryz.ntmps96
  go_wp2
  exact bodyPost_ret (results_blk rfl _ _ rfl (HR.out _) Tryz.underlying31 rfl (by kernel_rfl)) rfl ⟨rfl, HK.out _⟩
 have hne : ((b : Int) == 9223372036854775808) = false := by simp; omega
 have HF : Hid (numV b = b) := H_ (if_neg h)
 clear h
 rw [HF.out]
 go_enter Tryz.func96, Tryz.ntmps96
 go_wp2
 exact bodyPost_ret (results_blk rfl _ _ rfl (HR.out _) Tryz.underlying31 rfl (by kernel_rfl)) rfl ⟨rfl, HK.out _⟩
theorem rkeys_any (w : World) (B : Option Addr) (n d : Nat) (ks : List ByteArray) (hn : ks.length = n) (hr : Rd w B n (ks.map .string)) (hs : ∀ k ∈ ks, k.size ≤ 1152921504606846976) (hm : n ≤ 1152921504606846976) :
  Calls Tryz.prog 94 #[.slice B n d] w fun e w' => e = .returned (.bool (ks.all rightS)) ∧ w' = w := by
 have HR := H_ hr
 have HN := H_ hn
 have HC : Hid (∀ i s, ks[i]? = some s → Calls Tryz.prog 93 #[.string s] w fun e w' => e = .returned (.bool (rightS s)) ∧ w' = w) := H_ fun i s h => rright_any w s (hs s (List.mem_of_getElem? h))
 clear hr hn hs
 go_enter Tryz.func94, Tryz.ntmps94
 go_upto_block 0 with fail
 go_wp2
 go_loopg [3] n (fun gk t wx => ∃ i : Nat, i ≤ n ∧ t = .int .i64 i ∧ gk = n - i ∧ Hid (wx = w) ∧ Hid ((ks.take i).all rightS = true))
 case atStart => exact ⟨0, by omega, rfl, rfl, H_ rfl, H_ (by simp)⟩
 case round =>
  obtain ⟨i, hin, rfl, hgk, HW, HP⟩ := hrel
  have HGK := H_ hgk
  clear hgk
  by_cases hlt : i < n
  ·have hr2 := HR.out
   rw [← HW.out] at hr2
   obtain ⟨g, o, hB, hc⟩ := hr2.2 (by omega)
   subst hB
   obtain ⟨s, hsk⟩ : ∃ s, ks[i]? = some s := ⟨_, List.getElem?_eq_getElem (by have := HN.out; omega)⟩
   have ck : wr.cell? ⟨g, o + i, none⟩ = some (.string s) := by rw [hc i hlt, List.getElem?_map, hsk]; rfl
   have HCA := H_ (HC.out i s hsk)
   rw [← HW.out] at HCA
   have HSK := H_ hsk
   clear hr2 hc hsk
   obtain ⟨q, hq⟩ : ∃ q, q = rightS s := ⟨_, rfl⟩
   rw [← hq] at HCA
   have HQ := H_ hq
   clear hq
   rcases q with _ | _
   ·have HF : Hid (ks.all rightS = false) := H_ (by
     rw [List.all_eq_false]
     exact ⟨s, List.mem_of_getElem? HSK.out, by rw [← HQ.out]; decide⟩)
    go_wp2_with (go_at_call 93; refine HCA.out.mono ?_; rintro e w3 ⟨rfl, hw3⟩; subst w3)
    go_ret
    exact ⟨by rw [HF.out]; rfl, HW.out⟩
   ·have HNX : Hid ((ks.take (i + 1)).all rightS = true) := H_ (by
     rw [List.take_add_one, HSK.out, List.all_append, HP.out]
     simp [← HQ.out])
    go_wp2_with (go_at_call 93; refine HCA.out.mono ?_; rintro e w3 ⟨rfl, hw3⟩; subst w3)
    go_roundg (n - (i + 1))
    case measure => rw [HGK.out]; omega
    case rel => exact ⟨i + 1, by omega, by go_num, rfl, HW, HNX⟩
  obtain rfl : n = i := by omega
  have HF : Hid (ks.all rightS = true) := H_ (by
   have := HP.out
   rwa [List.take_of_length_le (by rw [HN.out]; exact Nat.le_refl _)] at this)
  go_wp2
  go_ret
  exact ⟨by rw [HF.out]; rfl, HW.out⟩
end Go.Proofs.YtdmcioghdindfaaGreatDoor
