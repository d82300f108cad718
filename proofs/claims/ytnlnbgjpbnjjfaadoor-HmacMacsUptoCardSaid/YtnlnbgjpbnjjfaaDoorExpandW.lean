/-
  WALKS: hmac.Expand; its refusals; number.
-/
import Derived.Test.YtnlnbgjpbnjjfaaDoorMacTW
import Derived.Test.YtnlnbgjpbnjjfaaDoorShaBW
set_option linter.unusedSimpArgs false
namespace Go.Mac
open Go Go.Aff Go.Sha
/-- T(t) of an expanded key; T(0) is nothing. -/
def tF (key info : List Int) : Nat → List Int
  | 0 => []
  | t + 1 => macF key (tF key info t ++ info ++ [((t + 1 : Nat) : Int)])
/-- T(1) .. T(t), one behind the other. -/
def expL (key info : List Int) : Nat → List Int
  | 0 => []
  | t + 1 => expL key info t ++ tF key info (t + 1)
theorem tF_length (key info : List Int) (t : Nat) : (tF key info (t + 1)).length = 32 := macF_length _ _
theorem expL_length (key info : List Int) : ∀ t, (expL key info t).length = 32 * t
  | 0 => rfl
  | t + 1 => by rw [expL, List.length_append, expL_length key info t, tF_length]; omega
theorem expL_take (key info : List Int) (k : Nat) : ∀ t d, k ≤ 32 * t → (expL key info (t + d)).take k = (expL key info t).take k
  | t, 0, _ => rfl
  | t, d + 1, h => by
    rw [show t + (d + 1) = (t + d) + 1 from rfl, expL, List.take_append_of_le_length (by rw [expL_length]; omega)]
    exact expL_take key info k t d h
/-- How many of them serve n bytes. -/
def tN (n : Nat) : Nat := (n + 31) / 32
/-- The first n bytes. -/
def expF (key info : List Int) (n : Nat) : List Int := (expL key info (tN n)).take n
theorem expF_length (key info : List Int) (n : Nat) : (expF key info n).length = n := by
  unfold expF tN
  rw [List.length_take, expL_length]; omega
end Go.Mac
namespace Go.Proofs.YtnlnbgjpbnjjfaaDoor
open Go Go.RowKit Go.Sha Go.Aff Go.Mac

theorem tF_bytes (key info : List Int) (t : Nat) : IsBytes (tF key info t) := by
  cases t with
  | zero => intro x hx; cases hx
  | succ t => exact sumF_bytes _ _ _
def lenOf : Value → Nat
  | .slice _ n _ => n
  | _ => 0
/-- hmac.Sum of three parts that are laid at the call, the third one a byte. -/
theorem hsum_three (w : World) (hG : Glob w) (A : Option Addr) (n c : Nat) (key : List Int) (hn : key.length = n) (hr : Rd w A n (vb key)) (hb : IsBytes key) (hc : n ≤ c) (hm : n ≤ 140737488351232)
    (B : Option Addr) (m d : Nat) (l : List Int) (hn1 : l.length = m) (hr1 : Rd w B m (vb l)) (hb1 : IsBytes l) (hc1 : m ≤ d) (hm1 : m ≤ 140737488351232)
    (C : Option Addr) (k e : Nat) (info : List Int) (hn2 : info.length = k) (hr2 : Rd w C k (vb info)) (hb2 : IsBytes info) (hc2 : k ≤ e) (hm2 : k ≤ 140737488351232) (z : Int) (hz : 0 ≤ z ∧ z < 256) :
    Calls Tryd.prog 19 #[.slice A n c, .slice (some ⟨w.heap.size + 1, 0, none⟩) 3 3] ((w.alloc (.cells #[.int .u8 z] 5)).alloc (.cells #[.slice B m d, .slice C k e, .slice (some ⟨w.heap.size, 0, none⟩) 1 1] 22)) fun e w' => e = .returned (.agg (vb (macF key (l ++ info ++ [z]))).toArray) ∧ Keeps (fun _ => False) w w' := by
  have hk1 : Keeps (fun _ => False) w (w.alloc (.cells #[.int .u8 z] 5)) := (Keeps.refl _ _).alloc _
  have hrz : Rd (w.alloc (.cells #[.int .u8 z] 5)) (some ⟨w.heap.size, 0, none⟩) 1 (vb [z]) := Rd.of_blk (Blk.new w 5 (vb [z])) rfl
  have hp := parts_three (fun _ => False) (w.alloc (.cells #[.int .u8 z] 5)) 22 B C (some ⟨w.heap.size, 0, none⟩) m d k e 1 1 l info [z] (fun _ h => h.elim) hn1 (hr1.keep hk1 (no_out _ _)) (no_out _ _) hb1 hc1 hm1 hn2 (hr2.keep hk1 (no_out _ _)) (no_out _ _) hb2 hc2 hm2 rfl hrz (no_out _ _) (by intro x hx; rw [List.mem_singleton.1 hx]; exact hz) (Nat.le_refl _) (by omega)
  have hk2 : Keeps (fun _ => False) w ((w.alloc (.cells #[.int .u8 z] 5)).alloc (.cells #[.slice B m d, .slice C k e, .slice (some ⟨w.heap.size, 0, none⟩) 1 1] 22)) := hk1.alloc _
  have hs := hsum_any _ (hG.keep hk2 (fun _ h => h.elim)) A n c key hn (hr.keep hk2 (no_out _ _)) hb hc hm _ 3 3 [l, info, [z]] rfl hp (by omega) (by simp; omega)
  rw [World.size_alloc] at hs
  have e1 : [l, info, [z]].flatten = l ++ info ++ [z] := by simp
  rw [e1] at hs
  exact hs.mono fun _ _ ⟨he, hk⟩ => ⟨he, hk2.trans hk (fun _ _ h => h)⟩

/-- While a key is expanded. -/
structure ExpR (w : World) (key info : List Int) (t : Nat) (Ao : Option Addr) (co : Nat) (Al : Option Addr) (nl cl : Nat) (wr : World) : Prop where
  row : Mine w wr 5 Ao (32 * t) co (vb (expL key info t))
  len : (tF key info t).length = nl
  rd : Rd wr Al nl (vb (tF key info t))
  le : nl ≤ cl

set_option maxHeartbeats 2000000 in
set_option maxRecDepth 100000 in
theorem hexpand_any (w : World) (hG : Glob w) (A B : Option Addr) (n c m d : Nat) (key info : List Int) (N : Nat)
    (hn : key.length = n) (hx : Rd w A n (vb key)) (bx : IsBytes key) (hc : n ≤ c) (hm : n ≤ 140737488351232)
    (hn' : info.length = m) (hy : Rd w B m (vb info)) (by' : IsBytes info) (hc' : m ≤ d) (hm' : m ≤ 140737488351232) (hN : N ≤ 8160) :
    Calls Tryd.prog 23 #[.slice A n c, .slice B m d, .int .i64 N] w fun e w' => ∃ A' c', e = .returned (.tuple #[.slice A' N c', .nilIface]) ∧ Mine w w' 5 A' N c' (vb (expF key info N)) := by
  have HS : Hid (∀ (W : World) (t : Nat) (Ao : Option Addr) (co : Nat) (Al : Option Addr) (nl cl : Nat), t < 255 → ExpR w key info t Ao co Al nl cl W → Calls Tryd.prog 19 #[.slice A n c, .slice (some ⟨W.heap.size + 1, 0, none⟩) 3 3] ((W.alloc (.cells #[.int .u8 ((t : Int) + 1)] 5)).alloc (.cells #[.slice Al nl cl, .slice B m d, .slice (some ⟨W.heap.size, 0, none⟩) 1 1] 22)) fun e w' => e = .returned (.agg (vb (tF key info (t + 1))).toArray) ∧ Keeps (fun _ => False) W w') := Lib.hid fun W t Ao co Al nl cl ht h => by
    have hk := h.row.2.1
    have hnl : nl ≤ 32 := by
      rw [← h.len]
      cases t with
      | zero => simp [tF]
      | succ t => rw [tF_length]; omega
    have := hsum_three W (hG.keep hk (fun _ h => h.elim)) A n c key hn (hx.keep hk (no_out _ _)) bx hc hm Al nl cl (tF key info t) h.len h.rd (tF_bytes _ _ _) h.le (by omega) B m d info hn' (hy.keep hk (no_out _ _)) by' hc' hm' ((t : Int) + 1) (by omega)
    exact this
  have HTL : Hid (∀ t, (vb (tF key info (t + 1))).length = 32) := Lib.hid fun t => by rw [vb_length, tF_length]
  have HSTEP : Hid (∀ (W W4 w' : World) (t : Nat) (Ao : Option Addr) (co : Nat) (Al : Option Addr) (nl cl g : Nat) (A5 : Option Addr) (c5 : Nat), ExpR w key info t Ao co Al nl cl W → Keeps (fun _ => False) W W4 → Blk W4 g 41 (vb (tF key info (t + 1))) → w'.ownsRow 0 5 1 (.slice A5 (32 * t + 32) c5) (32 * t + 32) (vb (expL key info t) ++ vb (tF key info (t + 1))) → W4.grownBy w' (Value.slice Ao (32 * t) co).ownBlock → ((Value.slice A5 (32 * t + 32) c5).ownBlock = (Value.slice Ao (32 * t) co).ownBlock ∨ (Value.slice A5 (32 * t + 32) c5).ownBlock = some W4.heap.size) → ExpR w key info (t + 1) A5 c5 (some ⟨g, 0, none⟩) 32 32 w') := Lib.hid fun W W4 w' t Ao co Al nl cl g A5 c5 h hk hb hown hg hbl => by
    have hrow := (h.row.keep hk)
    have happ := hrow.app0 hown hg hbl
    have e1 : vb (expL key info t) ++ vb (tF key info (t + 1)) = vb (expL key info (t + 1)) := by simp [vb, expL]
    rw [e1] at happ
    refine ⟨happ, tF_length _ _ _, ?_, Nat.le_refl _⟩
    refine (Rd.of_blk hb (by rw [vb_length, tF_length])).keep (Keeps.of_grown hg) (fun _ ad e hf => ?_)
    injection e with e
    subst e
    exact own_blk hrow.1 hb (by decide) hf
  have HCL : Hid (∀ (W : World) (t : Nat) (Ao : Option Addr) (co : Nat) (Al : Option Addr) (nl cl : Nat), ExpR w key info t Ao co Al nl cl W → N ≤ 32 * t → 32 * t < N + 32 → Calls Tryd.prog 44 #[.slice (cutA Ao co 0) N co] W fun e w' => ∃ A' c', e = .returned (.slice A' N c') ∧ Mine w w' 5 A' N c' (vb (expF key info N))) := Lib.hid fun W t Ao co Al nl cl h h1 h2 => by
    have e1 : (expL key info t).take N = expF key info N := by
      unfold expF
      have : t = tN N := by unfold tN; omega
      rw [this]
    have hcap : 32 * t ≤ co := by
      rcases Nat.eq_zero_or_pos t with rfl | hp
      · omega
      · obtain ⟨g, rfl, _, h3⟩ := h.row.form (by omega)
        exact h3
    have hrd : Rd W (cutA Ao co 0) N (vb (expF key info N)) := by
      have h3 := (Rd.of_own h.row.1).cutA (l := 0) (c := co) (by omega) hcap
      have h4 := h3.take (k := N) (by omega)
      rw [← e1]
      simpa [vb, List.map_take] using h4
    have hl := expF_length key info N
    have hcl := clone_any W (cutA Ao co 0) co (expF key info N) (by rw [hl]; exact hrd) (by omega)
    have h3 := hcl.mono (fun e w' h => h)
    unfold NewBytes at h3
    rw [hl] at h3
    refine h3.mono fun e w' ⟨A', c', he, ho, hk, hf⟩ => ?_
    exact ⟨A', c', he, ho, h.row.2.1.trans hk (fun _ _ h => h), fun g hg => Nat.le_trans h.row.2.1.size (hf g hg)⟩
  have HCAP : Hid (∀ (W : World) (t : Nat) (Ao : Option Addr) (co : Nat) (Al : Option Addr) (nl cl : Nat), ExpR w key info t Ao co Al nl cl W → 32 * t ≤ co) := Lib.hid fun W t Ao co Al nl cl h => by
    rcases Nat.eq_zero_or_pos t with rfl | hp
    · omega
    · obtain ⟨g, rfl, _, h3⟩ := h.row.form (by omega)
      exact h3
  have HR0 : Hid (ExpR w key info 0 none 0 none 0 0 w) := Lib.hid ⟨⟨World.ownsRow_nil _ _ _ _, Keeps.refl _ _, fun g h => by cases h⟩, rfl, Rd.nil w none, Nat.le_refl _⟩
  clear hx bx hy by' hn hn' hG
  go_enter Tryd.func23, Tryd.ntmps23
  go_wp2
  go_loopw [8, 9, 10] (fun O L i wr => ∃ (t : Nat) (Ao : Option Addr) (co : Nat) (Al : Option Addr) (nl cl : Nat), t ≤ 255 ∧ O = .slice Ao (32 * t) co ∧ L = .slice Al nl cl ∧ (t < 255 → i = .int .u8 ((t : Int) + 1)) ∧ (∃ z, i = .int .u8 z) ∧ 32 * t < N + 32 ∧ ExpR w key info t Ao co Al nl cl wr) (fun O _ _ _ => N + 32 - lenOf O)
  case atStart => exact ⟨0, none, 0, none, 0, 0, by omega, rfl, rfl, fun _ => rfl, ⟨_, rfl⟩, by omega, HR0.out⟩
  case round =>
    clear HR0
    obtain ⟨t, Ao, co, Al, nl, cl, ht, rfl, rfl, hi, ⟨z, rfl⟩, hlt32, hr⟩ := hrel
    have HR := Lib.hid hr
    clear hr
    by_cases hlt : 32 * t < N
    · have hz := hi (by omega)
      injection hz with _ hz
      subst hz
      obtain ⟨TV, hTV⟩ : ∃ TV, TV = vb (tF key info (t + 1)) := ⟨_, rfl⟩
      have hs := HS.out wr t Ao co Al nl cl (by omega) HR.out
      have hst := fun W4 w' g A5 c5 => HSTEP.out wr W4 w' t Ao co Al nl cl g A5 c5 HR.out
      have htl := HTL.out t
      have htb : ∀ u ∈ TV, u.oneCell' = true := by rw [hTV]; exact vb_one _
      rw [← hTV] at hs htl
      simp only [← hTV] at hst
      have HS' := Lib.hid hs
      have HST := Lib.hid hst
      have HTL' := Lib.hid htl
      have HTB := Lib.hid htb
      have hlt' : ((32 * t : Nat) : Int) < (N : Int) := by omega
      clear hs hst htl htb hTV hi
      go_wp2_with (first
        | (go_at_call 19; refine HS'.out.mono ?_; rintro e w2 ⟨rfl, hk2⟩; have HK2 := Lib.hid hk2; have HZ2 := Lib.hid (Blk.new w2 41 (List.replicate 32 (Value.int .u8 0))); clear hk2)
        | ((with_reducible show wpList _ _ _ (⟨none, Op.store 41 _ _, _, _, _, _⟩ :: _) _ _); refine wpList_store_whole rfl 41 _ _ rfl TV rfl rfl HZ2.out (by rw [HTL'.out]; simp) (by rw [HTL'.out]; exact info32) HTB.out ?_; have hb3 := HZ2.out.setRow TV; have hk3 := (HK2.out.alloc (.cells (List.replicate 32 (Value.int .u8 0)).toArray 41)).setRow (.inr HK2.out.size) TV.toArray; refine gen_world (fun W => Blk W w2.heap.size 41 TV ∧ Keeps (fun _ => False) wr W) ⟨hb3, hk3⟩ ?_; clear hb3 hk3; rintro w3 ⟨hb3, hk3⟩; have HB3 := Lib.hid hb3; have HOW := Lib.hid (HR.out.row.keep hk3).1; have HRD := Lib.hid (Rd.of_blk hb3 HTL'.out); have HK3 := Lib.hid hk3; clear hb3 hk3)
        | (at_builtin; refine wpList_append_rd _ rfl (.tmp 34) (.tmp 35) 22 rfl 5 (.int .u8 0) 1 Tryd.underlying22 info5 rfl (.slice Ao (32 * t) co) (32 * t) _ rfl HOW.out _ 32 32 _ rfl HRD.out HTB.out (by unfold maxLen; omega) (by omega) ?_; intro A5 c5 w5 hown5 hg5 hb5; have HE5 := Lib.hid (HST.out w3 w5 w2.heap.size A5 c5 HK3.out HB3.out hown5 hg5 hb5); clear hown5 hg5 hb5))
      go_roundw
      case rel => exact ⟨t + 1, A5, c5, some ⟨w2.heap.size, 0, none⟩, 32, 32, by omega, rfl, rfl, fun h => by go_num, ⟨_, rfl⟩, by omega, HE5.out⟩
      case measure => simp [lenOf]; omega
    · have hcut := cut_h (P := Tryd.prog) Tryd.underlying22 (by kernel_rfl) Ao (32 * t) co N N rfl (by have := HCAP.out _ _ _ _ _ _ _ HR.out; omega)
      have HC := Lib.hid (HCL.out wr t Ao co Al nl cl HR.out (by omega) hlt32)
      have hlt' : ¬ (((32 * t : Nat) : Int) < (N : Int)) := by omega
      obtain ⟨A1, hA1⟩ : ∃ A1, A1 = cutA Ao co 0 := ⟨_, rfl⟩
      rw [← hA1] at hcut HC
      clear hA1 hi
      go_wp2_with (first
        | (go_at_call 44; refine HC.out.mono ?_; rintro e w4 ⟨A4, c4, rfl, hm4⟩; have HM4 := Lib.hid hm4; clear hm4))
      go_ret2
      exact ⟨A4, c4, rfl, HM4.out⟩
end Go.Proofs.YtnlnbgjpbnjjfaaDoor

namespace Go.Proofs.YtnlnbgjpbnjjfaaDoor
open Go Go.RowKit Go.Sha Go.Aff Go.Mac

set_option maxRecDepth 100000 in
theorem hexpand_low (w : World) (a b : Value) (z : Int) (hz : z < 0) : Calls Tryd.prog 23 #[a, b, .int .i64 z] w fun e w' => e = .returned (.tuple #[.slice none 0 0, errno 2]) ∧ w' = w := by
  go_enter Tryd.func23, Tryd.ntmps23
  go_wp2
  go_ret2
  exact ⟨rfl, rfl⟩
set_option maxRecDepth 100000 in
theorem hexpand_high (w : World) (a b : Value) (z : Int) (hz : 8160 < z) : Calls Tryd.prog 23 #[a, b, .int .i64 z] w fun e w' => e = .returned (.tuple #[.slice none 0 0, errno 3]) ∧ w' = w := by
  have h0 : ¬ (z < 0) := by omega
  go_enter Tryd.func23, Tryd.ntmps23
  go_wp2
  go_ret2
  exact ⟨rfl, rfl⟩
set_option maxRecDepth 100000 in
theorem number_any (w : World) (k : Int) : Calls Tryd.prog 37 #[errno k, .int .i64 k] w fun e w' => e = .returned (.bool true) ∧ w' = w := by
  have h1 := as_errno
  go_enter Tryd.func37, Tryd.ntmps37
  go_wp2
  go_ret
  exact ⟨rfl, rfl⟩
end Go.Proofs.YtnlnbgjpbnjjfaaDoor

