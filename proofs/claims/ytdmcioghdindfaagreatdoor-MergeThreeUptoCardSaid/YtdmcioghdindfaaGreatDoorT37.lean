/- Texts. -/
import Derived.Test.YtdmcioghdindfaaGreatDoorT36
import Derived.Test.YtdmcioghdindfaaGreatDoorT33
set_option linter.unusedSimpArgs false
set_option maxRecDepth 100000
set_option maxHeartbeats 4000000
namespace Go.Proofs.YtdmcioghdindfaaGreatDoor
open Go Go.RowKit Go.Aff Go.Json
attribute [local go_sem] Oper.semAt_some
theorem RTSt.more {D : Nat → Prop} {w0 w4 W w10 : World} {b n : Nat} {B : Option Addr} {d : Nat} {A : Option Addr} {c : Nat} {ms : List (ByteArray × JV)} {css : List (List Value)} {A3 : Option Addr} {n3 c3 : Nat} {xs : List ByteArray} (h : RTSt D w0 w4 W b B d A c ms css A3 n3 c3 xs) (hn : n = (ms.map (·.1)).length)
  {ky : ByteArray} {cs : List Value} {x : JV} (hx : RAt (Rb_ (RE D A3 n3 c3) b (.slice B n d) (.slice A n c)) W cs x) (hS : Keeps (fun i => (Value.slice B n d).ownBlock = some i ∨ (Value.slice A n c).ownBlock = some i) W w10)
  {B8 : Option Addr} {d8 : Nat} {A10 : Option Addr} {c10 : Nat}
  (hT : BoxTwo w0 w10 b 31 [.int .i64 6, .bool false, .int .u64 0, .string .empty, .slice A n c, .slice B n d] 9 1 B8 (n + 1) d8 ((ms.map (·.1)).map .string ++ [.string ky]) 31 6 A10 (n + 1) c10 (css.flatten ++ cs))
  (hB : ∀ g, (Value.slice B8 (n + 1) d8).ownBlock = some g → (Value.slice B n d).ownBlock = some g ∨ W.heap.size ≤ g) (hA : ∀ g, (Value.slice A10 (n + 1) c10).ownBlock = some g → (Value.slice A n c).ownBlock = some g ∨ W.heap.size ≤ g) :
  RTSt D w0 w4 ((w10.setCell ⟨b, 5, none⟩ (.slice B8 (n + 1) d8)).setCell ⟨b, 4, none⟩ (.slice A10 (n + 1) c10)) b B8 d8 A10 c10 (ms ++ [(ky, x)]) (css ++ [cs]) A3 n3 c3 xs := by
 have hml : (ms.map (·.1)).length = ms.length := List.length_map ..
 have hnm : n = ms.length := by rw [hn, hml]
 have hl : (ms ++ [(ky, x)]).length = n + 1 := by rw [List.length_append, hnm]; rfl
 have kset : Keeps (fun i => i = b) w10 ((w10.setCell ⟨b, 5, none⟩ (.slice B8 (n + 1) d8)).setCell ⟨b, 4, none⟩ (.slice A10 (n + 1) c10)) :=
  ((Keeps.refl (fun i => i = b) w10).setCell (p := ⟨b, 5, none⟩) (.inl rfl) _).setCell (p := ⟨b, 4, none⟩) (.inl rfl) _
 have kF := (hS.mono (fun _ _ h => .inr h) : Keeps (fun i => i = b ∨ (Value.slice B n d).ownBlock = some i ∨ (Value.slice A n c).ownBlock = some i) W w10).trans kset fun _ _ e => .inl e
 refine ⟨rl_more h.rl hn hx hS hT hB hA, kF.own h.own fun g hg e => ?_, h.lo, fun g hg => ?_, h.le⟩
 ·have h1 := h.apart g hg
  rw [← hnm] at h1
  rcases e with e | e | e
  ·exact h1.1 e
  ·exact h1.2.1 e
  exact h1.2.2 e
 have h1 := h.apart g hg
 have h2 := h.ownlt hg
 rw [← hnm] at h1
 rw [hl]
 refine ⟨h1.1, fun e => ?_, fun e => ?_⟩
 ·rcases hB g e with e | e
  ·exact h1.2.1 e
  omega
 rcases hA g e with e | e
 ·exact h1.2.2 e
 omega
theorem rth_both {D : Nat → Prop} {w : World} {vo vx vy : List Value} {o : Option JV} {kx ky : List ByteArray} {lx ly : List JV} {Wa : Option Addr} {wn : Nat} {way : List ByteArray} (h : RThIn D w vo vx vy o (some (.obj kx lx)) (some (.obj ky ly)) Wa wn way) (wc0 : Nat) (h1 : ¬ (some (JV.obj kx lx) = some (.obj ky ly) ∨ some (JV.obj ky ly) = o)) (h2 : some (JV.obj kx lx) ≠ o)
  (ih : ∀ (key : ByteArray) (D' : Nat → Prop) (W : World) (vo' vx' vy' : List Value) (o' y' : Option JV) (Wa' : Option Addr) (wn' wc' : Nat) (way' : List ByteArray), RThIn D' W vo' vx' vy' o' (atK kx lx key) y' Wa' wn' way' → Calls Tryz.prog 10 #[.agg vo'.toArray, .agg vx'.toArray, .agg vy'.toArray, .slice Wa' wn' wc'] W (RThPost D' W (three o' (atK kx lx key) y' way'))) :
  Calls Tryz.prog 10 #[.agg vo.toArray, .agg vx.toArray, .agg vy.toArray, .slice Wa wn wc0] w (RThPost D w (three o (some (.obj kx lx)) (some (.obj ky ly)) way)) := by
 have HH := H_ h
 have HSO := H_ (infoV h.ao.len)
 have HSX := H_ (infoV h.ax.len)
 have HSY := H_ (infoV h.ay.len)
 have HST := H_ (RTh0.start w vo vx vy)
 obtain ⟨b4, hq4⟩ : ∃ b, b = w.heap.size := ⟨_, rfl⟩
 obtain ⟨b5, hq5⟩ : ∃ b, b = w.heap.size + 1 := ⟨_, rfl⟩
 obtain ⟨b6, hq6⟩ : ∃ b, b = w.heap.size + 1 + 1 := ⟨_, rfl⟩
 obtain ⟨b8, hq8⟩ : ∃ b, b = w.heap.size + 1 + 1 + 1 := ⟨_, rfl⟩
 rw [← hq8, ← hq6, ← hq5, ← hq4] at HST
 have HXY := rsame_is h.ax h.ay h.ox h.sx false ⟨fun e => (by cases e), fun e => absurd (.inl e) h1⟩
 have HXO := rsame_is h.ax h.ao h.ox h.sx false ⟨fun e => (by cases e), fun e => absurd e h2⟩
 have HYO := rsame_is h.ay h.ao h.oy h.sy false ⟨fun e => (by cases e), fun e => absurd (.inr e) h1⟩
 have HR := H_ (three_both (way := way) h1 h2 rfl rfl)
 have HIH := H_ ih
 have hk0 := mem2_keys h.oo h.so
 have hk1 := mem2_keys h.ox h.sx
 have hk2 := mem2_keys h.oy h.sy
 have HKP : Hid (KeysP (mem2 o).1 ∧ KeysP kx ∧ KeysP ky) := H_ ⟨hk0.1, hk1.1, hk2.1⟩
 have HFE : Hid ((mem2 o).1.length ≤ 65536 ∧ kx.length ≤ 65536 ∧ ky.length ≤ 65536) := H_ ⟨hk0.2, hk1.2, hk2.2⟩
 have HFX := H_ (h.ox _ rfl).form
 have HFY := H_ (h.oy _ rfl).form
 have HLV : Hid (vo.length = 6 ∧ vx.length = 6 ∧ vy.length = 6) := H_ ⟨h.ao.len, h.ax.len, h.ay.len⟩
 have tk : True := trivial
 have tm : True := trivial
 have tn : True := trivial
 clear h h1 h2 ih hk0 hk1 hk2
 go_enter Tryz.func10, Tryz.ntmps10
 go_upto_region 1 with fail
 rw [← hq8, ← hq6, ← hq5, ← hq4]
 refine gen_codeF (fun W => RTh0 w W b4 b5 b6 b8 vo vx vy) HST.out ?_
 intro w1 hw1
 have H1 := H_ hw1
 clear hw1 HST hq4 hq5 hq6 hq8
 go_upto_region 7 with (first
  | ((with_reducible show wpList _ _ _ (⟨some 16, _, _, _, _, _⟩ :: _) _ _); refine wpList_load_whole rfl 31 _ rfl _ rfl H1.out.k5 Tryz.underlying31 rfl HSX.out ?_)
  | ((with_reducible show wpList _ _ _ (⟨some 17, _, _, _, _, _⟩ :: _) _ _); refine wpList_load_whole rfl 31 _ rfl _ rfl H1.out.k6 Tryz.underlying31 rfl HSY.out ?_)
  | (go_at_call 39; have _t := tk; clear tk; refine (HXY.out _ H1.out.keep).mono ?_; rintro e w2 ⟨rfl, hk2⟩; have H2 := H_ (H1.out.stay hk2.out); clear hk2)
  | ((with_reducible show wpList _ _ _ (⟨some 20, _, _, _, _, _⟩ :: _) _ _); refine wpList_load_whole rfl 31 _ rfl _ rfl H2.out.k5 Tryz.underlying31 rfl HSX.out ?_)
  | ((with_reducible show wpList _ _ _ (⟨some 21, _, _, _, _, _⟩ :: _) _ _); refine wpList_load_whole rfl 31 _ rfl _ rfl H2.out.k4 Tryz.underlying31 rfl HSO.out ?_)
  | (go_at_call 39; have _t := tm; clear tm; refine (HXO.out _ H2.out.keep).mono ?_; rintro e w3 ⟨rfl, hk3⟩; have H3 := H_ (H2.out.stay hk3.out); clear hk3)
  | ((with_reducible show wpList _ _ _ (⟨some 24, _, _, _, _, _⟩ :: _) _ _); refine wpList_load_whole rfl 31 _ rfl _ rfl H3.out.k6 Tryz.underlying31 rfl HSY.out ?_)
  | ((with_reducible show wpList _ _ _ (⟨some 25, _, _, _, _, _⟩ :: _) _ _); refine wpList_load_whole rfl 31 _ rfl _ rfl H3.out.k4 Tryz.underlying31 rfl HSO.out ?_)
  | (go_at_call 39; have _t := tn; clear tn; refine (HYO.out _ H3.out.keep).mono ?_; rintro e w4 ⟨rfl, hk4⟩; have H4 := H_ (H3.out.stay hk4.out); clear hk4)
  )
 have c5 : w4.cell? ⟨b5, 0, none⟩ = some (.int .i64 6) := sort_cell HH.out.ax H4.out.k5
 have c6 : w4.cell? ⟨b6, 0, none⟩ = some (.int .i64 6) := sort_cell HH.out.ay H4.out.k6
 have hz := Blk.new w4 31 [.int .i64 0, .bool false, .int .u64 0, .string .empty, .slice none 0 0, .slice none 0 0]
 have f0 := hz.frozen 0
 have f1 := hz.frozen 1
 have f2 := hz.frozen 2
 have f3 := hz.frozen 3
 have f4 := hz.frozen 4
 have f5 := hz.frozen 5
 clear hz
 go_upto_region 11 with fail
 obtain ⟨p, hp⟩ : ∃ p, p = w4.heap.size := ⟨_, rfl⟩
 have HS0 : Hid (RbS (fun i => D i ∨ w4.heap.size ≤ i) w4 (w4.alloc (.cells #[.int .i64 6, .bool false, .int .u64 0, .string .empty, .slice none 0 0, .slice none 0 0] 31)) p none 0 none 0 [] [] []) := H_ ⟨by rw [hp]; exact BoxTwo.start w4 31 9 31 1 6 (Keeps.refl _ w4) [.int .i64 6, .bool false, .int .u64 0, .string .empty, .slice none 0 0, .slice none 0 0], RList.nil _ _, rfl⟩
 rw [← hp]
 refine gen_codeF (fun W => RbS (fun i => D i ∨ w4.heap.size ≤ i) w4 W p none 0 none 0 [] [] []) HS0.out ?_
 intro w5 hs5
 have HS5 := H_ hs5
 have HPP := H_ hp
 have HH5 := H_ (H4.out.stay hs5.two.hold)
 clear HS0 hs5 hp f0 f1 f2 f3 f4 f5 c5 c6 HXY HXO HYO
 have HKO : Hid (Calls Tryz.prog 40 #[.slice (some ⟨w5.heap.size, 0, none⟩) 3 3] (w5.alloc (.cells (vo ++ (vx ++ vy)).toArray 31)) fun e w' => ∃ (A : Option Addr) (n c : Nat) (cs : List ByteArray), e = .returned (.slice A n c) ∧ n ≤ 1048576 ∧ Hid (cs.length = n ∧ Rd w' A n (cs.map .string) ∧ InB (fun i => w5.heap.size ≤ i) A n ∧ cs.Pairwise ltS ∧ (∀ s, s ∈ cs ↔ s ∈ (mem2 o).1 ++ (kx ++ ky)) ∧ Keeps (fun _ => False) w5 w')) := H_ (by
  have hk2 := HH5.out.keep.alloc (.cells (vo ++ (vx ++ vy)).toArray 31)
  have hall : keysTo [o, some (.obj kx lx), some (.obj ky ly)] 3 = (mem2 o).1 ++ (kx ++ ky) := by simp [keysTo, mem2]
  refine (rkeysof_any (D := D) _ (some ⟨w5.heap.size, 0, none⟩) 3 3 [vo, vx, vy] [o, some (.obj kx lx), some (.obj ky ly)] (by
   have := RdS.blk (n := 3) (s := 6) (Blk.new w5 31 (vo ++ (vx ++ vy))) (by rw [List.length_append, List.length_append, HLV.out.1, HLV.out.2.1, HLV.out.2.2])
   simpa using this) rfl rfl ?_ (by rw [hall, List.length_append, List.length_append]; have := HFE.out; omega) (fun s hs => ?_) (by decide)).mono ?_
  ·intro i cs o' h1 h2
   match i, h1, h2 with
   | 0, h1, h2 => injection h1 with h1; injection h2 with h2; subst h1 h2; exact HH.out.ao.stay hk2
   | 1, h1, h2 => injection h1 with h1; injection h2 with h2; subst h1 h2; exact HH.out.ax.stay hk2
   | 2, h1, h2 => injection h1 with h1; injection h2 with h2; subst h1 h2; exact HH.out.ay.stay hk2
   | i + 3, h1, h2 => simp at h1
  ·rw [hall] at hs
   have hq : rightS s = true ∧ s.size ≤ 2097152 := (List.mem_append.1 hs).elim (HKP.out.1 s) fun hs => (List.mem_append.1 hs).elim (HKP.out.2.1 s) (HKP.out.2.2 s)
   exact ⟨hq.1, Nat.le_trans hq.2 (by decide)⟩
  rintro e w' ⟨A, n, c, cs, he, h1, h2, h3, h4, h5, h6, h7⟩
  rw [hall] at h6
  exact ⟨A, n, c, cs, he, h2, H_ ⟨h1, h3, h4.mono fun i hi => Nat.le_trans (by rw [World.size_alloc]; omega) hi, h5, h6, ((Keeps.refl _ w5).alloc _).trans h7 fun _ _ h => h⟩⟩)
 go_upto_block 0 with (first
  | ((with_reducible show wpList _ _ _ (⟨some 41, _, _, _, _, _⟩ :: _) _ _); refine wpList_load_whole rfl 31 _ rfl _ rfl HH5.out.k4 Tryz.underlying31 rfl HSO.out ?_)
  | ((with_reducible show wpList _ _ _ (⟨some 42, _, _, _, _, _⟩ :: _) _ _); refine wpList_load_whole rfl 31 _ rfl _ rfl HH5.out.k5 Tryz.underlying31 rfl HSX.out ?_)
  | ((with_reducible show wpList _ _ _ (⟨some 43, _, _, _, _, _⟩ :: _) _ _); refine wpList_load_whole rfl 31 _ rfl _ rfl HH5.out.k6 Tryz.underlying31 rfl HSY.out ?_)
  | ((with_reducible show wpList _ _ _ (⟨some 44, _, _, _, _, _⟩ :: _) _ _); refine wpList_box3_S _ rfl 28 31 (.tmp 41) (.tmp 42) (.tmp 43) rfl (.agg #[.int .i64 0, .bool false, .int .u64 0, .string .empty, .slice none 0 0, .slice none 0 0]) 6 Tryz.underlying28 (by kernel_rfl) (by decide) (by decide) vo vx vy HLV.out.1 HLV.out.2.1 HLV.out.2.2 rfl rfl rfl ?_)
  | (go_at_call 40; refine HKO.out.mono ?_; rintro e w6 ⟨S, m, cc, cs, rfl, hm, H6⟩))
 have HK56 : Hid (Keeps (fun _ => False) w5 w6) := H_ H6.out.2.2.2.2.2
 have HS6 : Hid (RTSt (fun i => D i ∨ w4.heap.size ≤ i) w4 w6 w6 p none 0 none 0 [] [] none 0 0 []) := H_ (RTSt.start (HS5.out.stay HK56.out) (Nat.le_trans HS5.out.two.hold.size HK56.out.size))
 have HA6 := H_ (Rd.inB H6.out.2.1 H6.out.2.2.1 (C := fun i => w5.heap.size ≤ i ∧ i < w6.heap.size) fun i h1 h2 => ⟨h1, h2⟩)
 have HP3 : Hid (w.heap.size ≤ w4.heap.size ∧ w4.heap.size ≤ p ∧ p < w5.heap.size ∧ w5.heap.size ≤ w6.heap.size) := H_ ⟨H4.out.keep.size, by rw [HPP.out]; exact Nat.le_refl _, HS5.out.two.blk.lt, HK56.out.size⟩
 obtain ⟨F1, hF1⟩ : ∃ F : ByteArray → Option JV, F = fun key => (threeF o (some (.obj kx lx)) (some (.obj ky ly)) way key).1 := ⟨_, rfl⟩
 obtain ⟨F2, hF2⟩ : ∃ F : ByteArray → List ByteArray, F = fun key => (threeF o (some (.obj kx lx)) (some (.obj ky ly)) way key).2 := ⟨_, rfl⟩
 have HFF := H_ (And.intro hF1 hF2)
 have HUN : Hid (unionT o (some (.obj kx lx)) (some (.obj ky ly)) = cs) := H_ (unionK_eq H6.out.2.2.2.1 H6.out.2.2.2.2.1)
 have HLE : Hid (∀ i, (keyed F1 (cs.take i)).length ≤ i) := H_ fun i => Nat.le_trans (keyed_len _ _) (by rw [List.length_take]; omega)
 clear hF1 hF2 HKO
 go_wp2
 go_loopg [11, 13] m (fun gk y t wx => ∃ (i : Nat) (B1 : Option Addr) (d1 : Nat) (A1 : Option Addr) (c1 : Nat) (css : List (List Value)) (A3 : Option Addr) (n3 c3 : Nat), i ≤ m ∧ y = .slice A3 n3 c3 ∧ t = .int .i64 i ∧ gk = m - i ∧ Hid (RTSt (fun i => D i ∨ w4.heap.size ≤ i) w4 w6 wx p B1 d1 A1 c1 (keyed F1 (cs.take i)) css A3 n3 c3 ((cs.take i).flatMap F2)))
 case atStart => exact ⟨0, none, 0, none, 0, [], none, 0, 0, by omega, rfl, rfl, rfl, H_ (by simp only [keyed, List.take_zero, List.filterMap_nil, List.flatMap_nil]; exact HS6.out)⟩
 case round =>
  obtain ⟨i, B1, d1, A1, c1, css, A3, n3, c3, hin, rfl, rfl, hgk, HO⟩ := hrel
  have HGK := H_ hgk
  clear hgk
  have HK1 : Hid (Keeps (fun _ => False) w4 wr ∧ Keeps (fun _ => False) w wr) := H_ ⟨HO.out.rl.rb.two.hold, H4.out.keep.trans HO.out.rl.rb.two.hold fun _ _ h => h⟩
  by_cases hlt : i < m
  ·obtain ⟨g, o1, key, hA, hky, hck⟩ := textAt (H6.out.2.1.keep HO.out.rl.keep (HA6.out.out fun q hq e => by have := HP3.out; have := hq.1; have := hq.2; omega)) hlt
   subst hA
   have hkin := (H6.out.2.2.2.2.1 key).1 (List.mem_of_getElem? hky)
   have hkr : rightS key = true ∧ key.size ≤ 2097152 := (List.mem_append.1 hkin).elim (HKP.out.1 key) fun h => (List.mem_append.1 h).elim (HKP.out.2.1 key) (HKP.out.2.2 key)
   have HB4 := H_ (HK1.out.1.blk H4.out.k4 (fun h => h))
   have HB5 := H_ (HK1.out.1.blk H4.out.k5 (fun h => h))
   have HB6 := H_ (HK1.out.1.blk H4.out.k6 (fun h => h))
   obtain ⟨oo', hoo⟩ : ∃ q, q = atK (mem2 o).1 (mem2 o).2 key := ⟨_, rfl⟩
   obtain ⟨ox', hox⟩ : ∃ q, q = atK kx lx key := ⟨_, rfl⟩
   obtain ⟨oy', hoy⟩ : ∃ q, q = atK ky ly key := ⟨_, rfl⟩
   have HG5 : Hid (∀ V, Keeps (fun _ => False) wr V → Calls Tryz.prog 41 #[.agg vo.toArray, .string key] V (ORPost D V oo')) := H_ fun V hV => by
    rw [hoo]
    exact rget_any V vo o (HH.out.ao.stay (HK1.out.2.trans hV fun _ _ h => h)) (mem2_ok HH.out.oo).1 (by have := HFE.out; omega) key
   have HG11 : Hid (∀ V, Keeps (fun _ => False) wr V → Calls Tryz.prog 41 #[.agg vx.toArray, .string key] V (ORPost D V ox')) := H_ fun V hV => by
    rw [hox]
    exact rget_any V vx (some (.obj kx lx)) (HH.out.ax.stay (HK1.out.2.trans hV fun _ _ h => h)) (HFX.out.2.1 rfl) (by have := HFE.out; show kx.length ≤ _; omega) key
   have HG17 : Hid (∀ V, Keeps (fun _ => False) wr V → Calls Tryz.prog 41 #[.agg vy.toArray, .string key] V (ORPost D V oy')) := H_ fun V hV => by
    rw [hoy]
    exact rget_any V vy (some (.obj ky ly)) (HH.out.ay.stay (HK1.out.2.trans hV fun _ _ h => h)) (HFY.out.2.1 rfl) (by have := HFE.out; show ky.length ≤ _; omega) key
   have hwn : wn ≤ 65536 := by have := HH.out.room; omega
   obtain ⟨r, hr⟩ : ∃ r, r = three oo' ox' oy' (way ++ [key]) := ⟨_, rfl⟩
   have hsm : ∀ {q : Option JV}, (∀ j, q = some j → j.nodes ≤ 65536 ∧ j.bytes ≤ 2097152) → ∀ j, atK (mem2 q).1 (mem2 q).2 key = some j → j.nodes ≤ 65536 ∧ j.bytes ≤ 2097152 := fun hq j hj => mem2_part hq j (atK_mem hj)
   have oko : OOk oo' := by rw [hoo]; exact HH.out.oo.at
   have okx : OOk ox' := by rw [hox]; exact HH.out.ox.at (key := key)
   have oky : OOk oy' := by rw [hoy]; exact HH.out.oy.at (key := key)
   have smx : ∀ j, ox' = some j → j.nodes ≤ 65536 ∧ j.bytes ≤ 2097152 := by rw [hox]; exact hsm HH.out.sx
   have smy : ∀ j, oy' = some j → j.nodes ≤ 65536 ∧ j.bytes ≤ 2097152 := by rw [hoy]; exact hsm HH.out.sy
   have smo : ∀ j, oo' = some j → j.nodes ≤ 65536 ∧ j.bytes ≤ 2097152 := by rw [hoo]; exact hsm HH.out.so
   have HTH : Hid (∀ V X Y Z A7 c7, Keeps (fun _ => False) wr V → ORAt D V X oo' → ORAt D V Y ox' → ORAt D V Z oy' → Rd V A7 (wn + 1) (way.map Value.string ++ [.string key]) → Calls Tryz.prog 10 #[.agg X.toArray, .agg Y.toArray, .agg Z.toArray, .slice A7 (wn + 1) c7] V fun e w' => ∃ Vv A9 n9 c9, e = .returned (.tuple #[.agg Vv.toArray, .slice A9 n9 c9]) ∧ Hid (ORAt (fun i => D i ∨ V.heap.size ≤ i) w' Vv r.1 ∧ Rd w' A9 n9 (r.2.map .string) ∧ r.2.length = n9 ∧ InB (fun i => V.heap.size ≤ i) A9 n9 ∧ Keeps (fun _ => False) V w')) := H_ fun V X Y Z A7 c7 hV hX hY hZ hR => by
    have hin : RThIn D V X Y Z oo' ox' oy' A7 (wn + 1) (way ++ [key]) := by
     refine ⟨hX, hY, hZ, oko, okx, oky, fun q hq => Nat.lt_of_lt_of_le (HH.out.low q hq) (HK1.out.2.trans hV fun _ _ h => h).size, ?_, by rw [List.length_append, HH.out.len]; rfl, fun s hs => (List.mem_append.1 hs).elim (HH.out.keys s) fun h => by rw [List.mem_singleton.1 h]; exact hkr, ?_, smo, smx, smy⟩
     ·rw [List.map_append]; exact hR
     have h1 := HH.out.room
     have h2 : ow JV.deep (some (JV.obj kx lx)) = (JV.obj kx lx).deep := rfl
     rw [h2] at h1
     rw [hox]
     cases hk : atK kx lx key with
     | none =>
      have h6 := JV.deep_eq (JV.obj kx lx)
      show wn + 1 + 0 ≤ _
      omega
     | some xj =>
      have h4 := maxN_mem (List.mem_map.2 ⟨xj, atK_mem hk, rfl⟩ : xj.deep ∈ lx.map fun x => x.deep)
      simp only [JV.deep] at h1
      show wn + 1 + xj.deep ≤ _
      omega
    have hcall := HIH.out key D V X Y Z oo' oy' A7 (wn + 1) c7 (way ++ [key]) (by rw [← hox]; exact hin)
    rw [← hox, ← hr] at hcall
    refine hcall.mono ?_
    rintro e w' ⟨Vv, A9, n9, c9, he, g1, g2, g3, g4, g5⟩
    exact ⟨Vv, A9, n9, c9, he, H_ ⟨g1, g2, g3, g4, g5⟩⟩
   have hFk : F1 key = r.1 ∧ F2 key = r.2 := by rw [hr, hoo, hox, hoy, HFF.out.1, HFF.out.2]; exact ⟨rfl, rfl⟩
   have hrm := three_room HH.out.oo HH.out.ox HH.out.oy way (ltS_nodup H6.out.2.2.2.1) hky
   have hn3 : n3 = ((cs.take i).flatMap F2).length := by have := HO.out.own.1; rw [List.length_map] at this; omega
   have hn9 : r.2.length ≤ 131072 := by
    have h1 := three_few ox' okx oo' oy' oko oky (way ++ [key])
    rw [← hr] at h1
    have h2 : ow JV.nodes ox' ≤ 65536 := by
     cases hq : ox' with
     | none => exact Nat.zero_le _
     | some j => exact (smx j hq).1
    have h3 : ow JV.nodes oy' ≤ 65536 := by
     cases hq : oy' with
     | none => exact Nat.zero_le _
     | some j => exact (smy j hq).1
    omega
   have HBN : Hid (n3 ≤ 131072 ∧ r.2.length ≤ 131072) := H_ ⟨by
    rw [hn3, HFF.out.2]
    have h1 := (HH.out.sx _ rfl).1
    have h2 := (HH.out.sy _ rfl).1
    have h3 : ow JV.nodes (some (JV.obj kx lx)) = (JV.obj kx lx).nodes := rfl
    have h4 : ow JV.nodes (some (JV.obj ky ly)) = (JV.obj ky ly).nodes := rfl
    omega, hn9⟩
   have HSN : Hid (keyed F1 (cs.take (i + 1)) = keyed F1 (cs.take i) ++ (r.1.map fun z => (key, z)).toList) := H_ (by rw [keyed_snoc hky, hFk.1])
   have HFL : Hid ((cs.take (i + 1)).flatMap F2 = (cs.take i).flatMap F2 ++ r.2) := H_ (by rw [List.take_add_one, hky, List.flatMap_append, ← hFk.2]; simp)
   have HKY := H_ (And.intro hky hkin)
   have HCK := H_ hck
   have HLW : Hid (∀ q, D q → q < wr.heap.size) := H_ fun q hq => Nat.lt_of_lt_of_le (HH.out.low q hq) HK1.out.2.size
   have HR5 := H_ (RdS.of_rd (HH.out.row.keep HK1.out.2 fun _ _ _ h => h))
   have H1C : Hid (∀ u ∈ way.map Value.string, u.oneCell' = true) := H_ fun u hu => by
    obtain ⟨x, _, rfl⟩ := List.mem_map.1 hu; rfl
   have H2C : Hid (∀ u ∈ r.2.map Value.string, u.oneCell' = true) := H_ fun u hu => by
    obtain ⟨x, _, rfl⟩ := List.mem_map.1 hu; rfl
   have hi63 : (0 : Int) ≤ (i : Int) := by omega
   have hiN : (i : Int) < (m : Int) := by omega
   unfold ORPost at HG5 HG11 HG17
   clear hky hkin hck hoo hox hoy hr hsm oko okx oky smx smy smo hFk hrm hn3 hn9 hkr
   go_upto_region 15 with fail
   refine wp_region_held_drew (S := Keeps (fun _ => False) wr) (by kernel_rfl) (Keeps.refl _ _).drew (fun h_ => ?_)
   refine tI 0 53 h_ ?_ (hy := (yieldsIf_load_mid (by rfl) _ _ rfl _ _ rfl vo _ (fun w' h => blk_rngL (h.blk HB4.out (fun h => h))) Tryz.underlying31 rfl HSO.out))
   try simp only [pu]
   refine tI 1 54 h_ ?_
   try simp only [pu]
   refine tI 2 55 h_ ?_
   try simp only [pu]
   refine tI 3 56 h_ ?_
   try simp only [pu]
   refine tI 4 57 h_ ?_ (hy := .inl ⟨by rfl, by intro w' hSw; have cv := cell_keep hSw HCK.out; go_simp; first | done | rfl⟩)
   try simp only [pu]
   refine tI 6 59 h_ ?_ (hy := (yieldsIf_load_mid (by rfl) _ _ rfl _ _ rfl vx _ (fun w' h => blk_rngL (h.blk HB5.out (fun h => h))) Tryz.underlying31 rfl HSX.out))
   try simp only [pu]
   refine tI 7 60 h_ ?_
   try simp only [pu]
   refine tI 8 61 h_ ?_
   try simp only [pu]
   refine tI 9 62 h_ ?_
   try simp only [pu]
   refine tI 10 63 h_ ?_ (hy := .inl ⟨by rfl, by intro w' hSw; have cv := cell_keep hSw HCK.out; go_simp; first | done | rfl⟩)
   try simp only [pu]
   refine tI 12 65 h_ ?_ (hy := (yieldsIf_load_mid (by rfl) _ _ rfl _ _ rfl vy _ (fun w' h => blk_rngL (h.blk HB6.out (fun h => h))) Tryz.underlying31 rfl HSY.out))
   try simp only [pu]
   refine tI 13 66 h_ ?_
   try simp only [pu]
   refine tI 14 67 h_ ?_
   try simp only [pu]
   refine tI 15 68 h_ ?_
   try simp only [pu]
   refine tI 16 69 h_ ?_ (hy := .inl ⟨by rfl, by intro w' hSw; have cv := cell_keep hSw HCK.out; go_simp; first | done | rfl⟩)
   try simp only [pu]
   refine tI 19 72 h_ ?_
   try simp only [pu]
   refine tI 21 74 h_ ?_
   try simp only [pu]
   refine tI 22 75 h_ ?_
   try simp only [pu]
   refine tI 23 76 h_ ?_
   try simp only [pu]
   refine tI 24 77 h_ ?_ (hy := .inl ⟨by rfl, by intro w' hSw; have cv := cell_keep hSw HCK.out; go_simp; first | done | rfl⟩)
   try simp only [pu]
   refine wpAnyH_inv [58, 64, 70, 71, 73, 78, 79, 80, 52, 81, 82, 14, 15] (fun done f w => ThJ D wr oo' ox' oy' wn (way.map Value.string) key r done (f 58) (f 64) (f 70) (f 71) (f 73) (f 78) (f 79) (f 80) (f 52) (f 81) (f 82) (f 14) (f 15) w) [5, 11, 17, 18, 20, 25, 26, 27, 28, 29, 30, 31, 32, 33] (by kernel_rfl) (by kernel_rfl) (by kernel_rfl) (by decide) (fun _ _ _ h => h.keep) (by kernel_rfl) (by kernel_rfl) (fun _ _ h => ThJ.start h_ h) ?_ ?_
   rotate_left
   ·refine (AllStepsI.cons (o := ⟨some 58, _, _, _, _, _⟩) [] (by decide) rfl rfl (by kernel_rfl) (fun done f w hJ hn hp hcl a ha K hK => ?_) (AllStepsI.cons (o := ⟨some 64, _, _, _, _, _⟩) [5] (by decide) rfl rfl (by kernel_rfl) (fun done f w hJ hn hp hcl a ha K hK => ?_) (AllStepsI.cons (o := ⟨some 70, _, _, _, _, _⟩) [11] (by decide) rfl rfl (by kernel_rfl) (fun done f w hJ hn hp hcl a ha K hK => ?_) (AllStepsI.cons (o := ⟨some 71, _, _, _, _, _⟩) [] (by decide) rfl rfl (by kernel_rfl) (fun done f w hJ hn hp hcl a ha K hK => ?_) (AllStepsI.cons (o := ⟨some 73, _, _, _, _, _⟩) [17, 18] (by decide) rfl rfl (by kernel_rfl) (fun done f w hJ hn hp hcl a ha K hK => ?_) (AllStepsI.cons (o := ⟨some 78, _, _, _, _, _⟩) [] (by decide) rfl rfl (by kernel_rfl) (fun done f w hJ hn hp hcl a ha K hK => ?_) (AllStepsI.cons (o := ⟨some 79, _, _, _, _, _⟩) [20, 25] (by decide) rfl rfl (by kernel_rfl) (fun done f w hJ hn hp hcl a ha K hK => ?_) (AllStepsI.cons (o := ⟨some 80, _, _, _, _, _⟩) [5, 11, 17, 26] (by decide) rfl rfl (by kernel_rfl) (fun done f w hJ hn hp hcl a ha K hK => ?_) (AllStepsI.cons (o := ⟨some 52, _, _, _, _, _⟩) [27] (by decide) rfl rfl (by kernel_rfl) (fun done f w hJ hn hp hcl a ha K hK => ?_) (AllStepsI.cons (o := ⟨some 81, _, _, _, _, _⟩) [28] (by decide) rfl rfl (by kernel_rfl) (fun done f w hJ hn hp hcl a ha K hK => ?_) (AllStepsI.cons (o := ⟨some 82, _, _, _, _, _⟩) [28] (by decide) rfl rfl (by kernel_rfl) (fun done f w hJ hn hp hcl a ha K hK => ?_) (AllStepsI.cons (o := ⟨some 14, _, _, _, _, _⟩) [] (by decide) rfl rfl (by kernel_rfl) (fun done f w hJ hn hp hcl a ha K hK => ?_) (AllStepsI.cons (o := ⟨none, _, _, _, _, _⟩) [5, 11, 17, 18, 20, 25, 26, 27, 28, 29, 31] (by decide) rfl rfl (by kernel_rfl) (fun done f w hJ hn hp hcl a ha K hK => ?_) (AllStepsI.cons (o := ⟨some 15, _, _, _, _, _⟩) [5, 11, 17, 18, 20, 25, 26, 27, 28, 29, 30, 31, 32] (by decide) rfl rfl (by kernel_rfl) (fun done f w hJ hn hp hcl a ha K hK => ?_) AllStepsI.nil))))))))))))))
    ·simp only [actsOf, Act.put, List.setIfInBounds_toArray, List.set_cons_zero, List.set_cons_succ] at ha
     subst ha
     go_simp
     refine (HG5.out _ hJ.keep).mono ?_
     rintro e v ⟨X, rfl, hx, k⟩
     exact hK.out _ _ (hJ.got5 k hx)
    ·simp only [actsOf, Act.put, List.setIfInBounds_toArray, List.set_cons_zero, List.set_cons_succ] at ha
     subst ha
     go_simp
     refine (HG11.out _ hJ.keep).mono ?_
     rintro e v ⟨X, rfl, hx, k⟩
     exact hK.out _ _ (hJ.got11 k hx)
    ·simp only [actsOf, Act.put, List.setIfInBounds_toArray, List.set_cons_zero, List.set_cons_succ] at ha
     subst ha
     go_simp
     refine (HG17.out _ hJ.keep).mono ?_
     rintro e v ⟨X, rfl, hx, k⟩
     exact hK.out _ _ (hJ.got17 k hx)
    ·simp only [actsOf, Act.put, List.setIfInBounds_toArray, List.set_cons_zero, List.set_cons_succ] at ha
     subst ha
     go_simp
     exact hK.out _ _ (hJ.made18 (fun e => hn (hcl 20 18 (by kernel_rfl) e)) rfl)
    ·obtain ⟨A0, e71, hM⟩ := hJ.m18 (hp 18 (by decide)) hn
     simp only [actsOf, Act.put, List.setIfInBounds_toArray, List.set_cons_zero, List.set_cons_succ, e71] at ha
     subst ha
     refine step_append_mineG rfl (.tmp 71) (.tmp 72) 29 rfl 9 (.string .empty) 1 16 Tryz.underlying29 (by kernel_rfl) rfl (by decide) rfl hM Wa wn wc0 (way.map .string) rfl (HR5.out.stay hJ.keep) H1C.out (by unfold maxLen; omega) (by omega) wn (by omega) (way.map .string) (by simp) ?_
     intro A8 c8 v hM' k hb
     exact hK.out _ _ (hJ.app20 HLW.out (hp 18 (by decide)) hn (fun e => hn (hcl 26 20 (by kernel_rfl) e)) (fun e => hn (hcl 26 20 (by kernel_rfl) (hcl 27 26 (by kernel_rfl) e))) e71 hM hM' k hb)
    ·simp only [actsOf, Act.put, List.setIfInBounds_toArray, List.set_cons_zero, List.set_cons_succ] at ha
     subst ha
     go_simp
     exact hK.out _ _ (hJ.made25 (fun e => hn (hcl 26 25 (by kernel_rfl) e)) rfl)
    ·obtain ⟨A8, c8, e73, hM⟩ := hJ.m20 (hp 20 (by decide)) hn
     obtain ⟨b, e78, hb⟩ := hJ.b25 (hp 25 (by decide)) hn
     simp only [actsOf, Act.put, List.setIfInBounds_toArray, List.set_cons_zero, List.set_cons_succ, e73, e78] at ha
     subst ha
     refine step_append_mineG rfl (.tmp 73) (.tmp 78) 29 rfl 9 (.string .empty) 1 16 Tryz.underlying29 (by kernel_rfl) rfl (by decide) rfl hM (some ⟨b, 0, none⟩) 1 1 [.string key] rfl (RdS.blk hb rfl) (by intro u hu; rw [List.mem_singleton.1 hu]; rfl) (by unfold maxLen; omega) (by omega) (wn + 1) rfl (way.map .string ++ [.string key]) rfl ?_
     intro A9 c9 v hM' k _
     exact hK.out _ _ (hJ.app26 HLW.out (hp 20 (by decide)) (fun e => hn (hcl 27 26 (by kernel_rfl) e)) hM hM' k)
    ·obtain ⟨X, e58, hx⟩ := hJ.c5 (hp 5 (by decide))
     obtain ⟨Y, e64, hy⟩ := hJ.c11 (hp 11 (by decide))
     obtain ⟨Z, e70, hz⟩ := hJ.c17 (hp 17 (by decide))
     obtain ⟨A9, c9, e79, hr9, _⟩ := hJ.r26 (hp 26 (by decide))
     simp only [actsOf, Act.put, List.setIfInBounds_toArray, List.set_cons_zero, List.set_cons_succ, e58, e64, e70, e79] at ha
     subst ha
     go_simp
     refine (HTH.out _ X Y Z A9 c9 hJ.keep hx hy hz hr9).mono ?_
     rintro e v ⟨Vv, A, n9, c', rfl, HV⟩
     exact hK.out _ _ (hJ.call27 hn HV.out.2.2.2.2 HV.out.1 HLW.out HV.out.2.1 HV.out.2.2.1 HV.out.2.2.2.1)
    ·simp only [actsOf, Act.put, List.setIfInBounds_toArray, List.set_cons_zero, List.set_cons_succ] at ha
     subst ha
     go_simp
     exact hK.out _ _ (hJ.copy28 (hp 27 (by decide)) hn (Keeps.refl _ _))
    ·obtain ⟨Vv, A, n9, c', e80, hV, _⟩ := hJ.c27 (hcl 28 27 (by kernel_rfl) (hp 28 (by decide)))
     have e52 : f 52 = .tuple #[.agg Vv.toArray, .slice A n9 c'] := by rw [(hJ.e28 (hp 28 (by decide))).2, e80]
     simp only [actsOf, Act.put, List.setIfInBounds_toArray, List.set_cons_zero, List.set_cons_succ, e52] at ha
     subst ha
     simp only [Act.put, List.setIfInBounds_toArray, List.set_cons_zero, List.set_cons_succ] at hK
     clear e80
     go_simp
     exact hK.out _ _ (hJ.ext29 (hp 28 (by decide)) hn e52 (Keeps.refl _ _))
    ·obtain ⟨Vv, A, n9, c', e80, hV, _⟩ := hJ.c27 (hcl 28 27 (by kernel_rfl) (hp 28 (by decide)))
     have e52 : f 52 = .tuple #[.agg Vv.toArray, .slice A n9 c'] := by rw [(hJ.e28 (hp 28 (by decide))).2, e80]
     simp only [actsOf, Act.put, List.setIfInBounds_toArray, List.set_cons_zero, List.set_cons_succ, e52] at ha
     subst ha
     simp only [Act.put, List.setIfInBounds_toArray, List.set_cons_zero, List.set_cons_succ] at hK
     clear e80
     go_simp
     exact hK.out _ _ (hJ.ext30 (hp 28 (by decide)) (fun e => hn (hcl 33 30 (by kernel_rfl) e)) e52 (Keeps.refl _ _))
    ·simp only [actsOf, Act.put, List.setIfInBounds_toArray, List.set_cons_zero, List.set_cons_succ] at ha
     subst ha
     go_simp
     exact hK.out _ _ (hJ.made31 (zs := [.int .i64 0, .bool false, .int .u64 0, .string .empty, .slice none 0 0, .slice none 0 0]) rfl hn rfl)
    ·obtain ⟨Vv, A, n9, c', e80, hV, _⟩ := hJ.c27 (hcl 28 27 (by kernel_rfl) (hcl 29 28 (by kernel_rfl) (hp 29 (by decide))))
     have e52 : f 52 = .tuple #[.agg Vv.toArray, .slice A n9 c'] := by rw [(hJ.e28 (hcl 29 28 (by kernel_rfl) (hp 29 (by decide)))).2, e80]
     have e81 := hJ.e29 (hp 29 (by decide)) _ _ e52
     obtain ⟨p14, zs, e14, hb, hlo, hl, _⟩ := hJ.p31 (hp 31 (by decide))
     simp only [actsOf, Act.put, List.setIfInBounds_toArray, List.set_cons_zero, List.set_cons_succ, e14, e81] at ha
     subst ha
     refine step_store_whole rfl 31 (.tmp 14) (.tmp 81) rfl Vv rfl rfl hb (by rw [hl, hV.len]) (infoV hV.len) hV.one ?_
     exact hK.out undef _ (hJ.put32 (hp 29 (by decide)) (hp 31 (by decide)) HLW.out e14 e81 hV.len hlo (hp 26 (by decide)) (hp 20 (by decide)) rfl ⟨zs, hb⟩)
    simp only [actsOf, Act.put, List.setIfInBounds_toArray, List.set_cons_zero, List.set_cons_succ] at ha
    subst ha
    go_simp
    exact hK.out _ _ (hJ.asg33 (Keeps.refl _ _))
   intro done f V5 hJ hall
   obtain ⟨Z, A9, n9, c9, e80, hV, hR9, hl9, hI9⟩ := hJ.c27 (hall 27 (by decide))
   have e52 : f 52 = .tuple #[.agg Z.toArray, .slice A9 n9 c9] := by rw [(hJ.e28 (hall 28 (by decide))).2, e80]
   have e81 := hJ.e29 (hall 29 (by decide)) _ _ e52
   have e82 := hJ.e30 (hall 30 (by decide)) _ _ e52
   have e15 : f 15 = .slice A9 n9 c9 := by rw [hJ.e33 (hall 33 (by decide)), e82]
   obtain ⟨p14, zs, e14, hb, hlo, hzl, ez⟩ := hJ.p31 (hall 31 (by decide))
   have hzs : zs = Z := by have := ez (hall 32 (by decide)); rw [e81] at this; injection this with this; exact (List.toArray_inj this).symm
   subst hzs
   have HK5 := H_ hJ.keep
   have HV5 : Hid (ORAt (fun i => (D i ∨ wr.heap.size ≤ i) ∧ i ≠ p14) V5 zs r.1 ∧ Rd V5 A9 n9 (r.2.map .string) ∧ r.2.length = n9 ∧ Blk V5 p14 31 zs ∧ wr.heap.size ≤ p14) := H_ ⟨hV.mono fun q hq _ => ⟨hq.1, fun e => hq.2 (hall 31 (by decide)) (by rw [e14, e])⟩, hR9, hl9, hb, hlo⟩
   simp only [actsOf, Act.put, List.setIfInBounds_toArray, List.set_cons_zero, List.set_cons_succ, e14, e15]
   clear hJ hall e80 e52 e81 e82 e15 e14 ez hb hV hR9 hl9 hI9 hzl hlo
   have HO5 := H_ (HO.out.stay HK5.out)
   have hn9 : n9 ≤ 131072 := by rw [← HV5.out.2.2.1]; exact HBN.out.2
   have hn3 : n3 ≤ 131072 := HBN.out.1
   go_upto_region 17 with ((with_reducible show wpList _ _ _ (⟨some 85, _, _, _, _, _⟩ :: _) _ _); refine wpList_append_S _ rfl (.tmp 83) (.tmp 84) 29 rfl 9 (.string .empty) 1 16 Tryz.underlying29 (by kernel_rfl) rfl (by decide) A3 n3 c3 (((cs.take i).flatMap F2).map .string) rfl HO5.out.own A9 n9 c9 (r.2.map .string) rfl (RdS.of_rd HV5.out.2.1) H2C.out (by unfold maxLen; omega) (by omega) ?_; intro A10 c10 u6 k1 k2 k3; have HS6 := H_ (HO5.out.said (ys := (cs.take i).flatMap F2 ++ r.2) k2 (by rw [List.map_append]; exact k1) k3); have HG6 := H_ k2; have HN6 := H_ k3; clear k1 k2 k3)
   have HV6 : Hid (ORAt (fun i => ((D i ∨ wr.heap.size ≤ i) ∧ i ≠ p14) ∧ (Value.slice A10 (n3 + n9) c10).ownBlock ≠ some i) u6 zs r.1 ∧ Blk u6 p14 31 zs) := H_ (by
    have kg := Keeps.of_grown HG6.out
    have hown := fun g hg => HO.out.lo g hg
    refine ⟨((HV5.out.1.mono (C := fun i => ((D i ∨ wr.heap.size ≤ i) ∧ i ≠ p14) ∧ i < V5.heap.size) fun i h1 h2 => ⟨h1, h2⟩).keep kg fun q hq e => ?_).mono fun q hq _ => ⟨hq.1, fun e => ?_⟩, kg.blk HV5.out.2.2.2.1 (own_blk HO5.out.own HV5.out.2.2.2.1 (by decide))⟩
    ·have h1 := hown q e
     have h2 := HO.out.ownlt e
     have h3 := HP3.out
     rcases hq.1.1 with h | h
     ·have := HH.out.low q h; omega
     omega
    rcases HN6.out with h | h
    ·rw [h] at e
     have h1 := hown q e
     have h2 := HO.out.ownlt e
     have h3 := HP3.out
     rcases hq.1.1 with h | h
     ·have := HH.out.low q h; omega
     omega
    rw [h] at e
    injection e with e
    have := hq.2
    omega)
   obtain ⟨sr, hsr⟩ : ∃ z, z = osort r.1 := ⟨_, rfl⟩
   have c14 : u6.cell? ⟨p14, 0, none⟩ = some (.int .i64 sr) := by rw [hsr]; exact sort_cell HV6.out.1 HV6.out.2
   cases hr1 : r.1 with
   | none =>
    have hs0 : (sr != 0) = false := by rw [hsr, hr1]; rfl
    have HSN1 := H_ (show keyed F1 (cs.take (i + 1)) = keyed F1 (cs.take i) by rw [HSN.out, hr1]; simp)
    clear hr1 hsr
    go_wp2
    go_roundg (m - (i + 1))
    case measure => rw [HGK.out]; omega
    case rel => exact ⟨i + 1, B1, d1, A1, c1, css, A10, n3 + n9, c10, by omega, rfl, by go_num, rfl, H_ (by rw [HSN1.out, HFL.out]; exact HS6.out)⟩
   | some z =>
    have hs0 : (sr != 0) = true := by
     rw [hsr, hr1]
     show (z.sort != 0) = true
     cases z <;> rfl
    have HSN1 := H_ (show keyed F1 (cs.take (i + 1)) = keyed F1 (cs.take i) ++ [(key, z)] by rw [HSN.out, hr1]; simp)
    obtain ⟨mq, hmq⟩ : ∃ mq, mq = ((keyed F1 (cs.take i)).map (·.1)).length := ⟨_, rfl⟩
    have hmi : mq ≤ i := by rw [hmq, List.length_map]; exact HLE.out i
    have HM := H_ hmq
    have HT0 : Hid (BoxTwo w4 u6 p 31 [.int .i64 6, .bool false, .int .u64 0, .string .empty, .slice A1 mq c1, .slice B1 mq d1] 9 1 B1 mq d1 (((keyed F1 (cs.take i)).map (·.1)).map .string) 31 6 A1 mq c1 css.flatten) := H_ (by rw [hmq]; exact HS6.out.rl.rb.two)
    have HNF : Hid (∀ q, ((Value.slice B1 mq d1).ownBlock = some q ∨ (Value.slice A1 mq c1).ownBlock = some q) → w6.heap.size ≤ q ∧ q < wr.heap.size) := H_ fun q e => by
     rw [hmq] at e
     exact e.elim (fun e => ⟨HO.out.rl.ob q e, HO.out.rl.rb.two.two.a.own_lt e⟩) (fun e => ⟨HO.out.rl.oa q e, HO.out.rl.rb.two.two.b.own_lt e⟩)
    have HCE : Hid (∀ V, Keeps (fun q => (Value.slice B1 mq d1).ownBlock = some q ∨ (Value.slice A1 mq c1).ownBlock = some q) u6 V → V.cell? ⟨p, 5, none⟩ = some (.slice B1 mq d1) ∧ V.cell? ⟨p, 4, none⟩ = some (.slice A1 mq c1) ∧ V.cell? ⟨g, o1 + i, none⟩ = some (.string key) ∧ Blk V p14 31 zs) := H_ fun V hV => by
     have h1 := hV.blk HT0.out.blk (fun e => e.elim HT0.out.na HT0.out.nb)
     have hc5 := cell_keep HK5.out HCK.out
     have hg4 : g < w6.heap.size := (HA6.out (by omega) _ rfl).2
     have hc6 := ((Keeps.of_grown HG6.out).cell (World.block_lt_of_cell? _ _ hc5) (fun e => by have h3 := HO.out.lo _ e; have h4 : w6.heap.size ≤ g := h3; omega)).trans hc5
     exact ⟨h1.cell 5, h1.cell 4, (hV.cell (World.block_lt_of_cell? _ _ hc6) (fun e => by have h3 := (HNF.out _ e).1; have h4 : w6.heap.size ≤ g := h3; omega)).trans hc6, hV.blk HV6.out.2 (fun e => by have h3 := (HNF.out _ e).2; have h4 := HV5.out.2.2.2.2; omega)⟩
    have hra : RAt (fun i => ((D i ∨ wr.heap.size ≤ i) ∧ i ≠ p14) ∧ (Value.slice A10 (n3 + n9) c10).ownBlock ≠ some i) u6 zs z := by have := HV6.out.1; rw [hr1] at this; exact this
    have HZ6 : Hid (zs.length = 6) := H_ hra.len
    have HZ1 : Hid (∀ u ∈ zs, u.oneCell' = true) := H_ hra.one
    have HSZ := H_ (infoV HZ6.out)
    have HRB : Hid (RAt (Rb_ (RE (fun i => D i ∨ w4.heap.size ≤ i) A10 (n3 + n9) c10) p (.slice B1 mq d1) (.slice A1 mq c1)) u6 zs z) := H_ (hra.mono fun q hq _ => by
     have h1 := HP3.out
     have h3 := HO.out.rl.rb.two.blk.lt
     have h4 := HK1.out.1.size
     rcases hq.1.1 with h | h
     ·have h6 := HH.out.low q h
      exact ⟨⟨.inl h, hq.2⟩, fun e => by omega, fun e => by have := (HNF.out q (.inl e)).1; omega, fun e => by have := (HNF.out q (.inr e)).1; omega⟩
     exact ⟨⟨.inr (by omega), hq.2⟩, fun e => by omega, fun e => by have := (HNF.out q (.inl e)).2; omega, fun e => by have := (HNF.out q (.inr e)).2; omega⟩)
    clear hmq hra hr1 hsr
    go_upto_region 18 with fail
    refine wp_region_tail (S := (fun V => Keeps (fun q => (Value.slice B1 mq d1).ownBlock = some q ∨ (Value.slice A1 mq c1).ownBlock = some q) u6 V)) 14 (by kernel_rfl) (Keeps.refl _ _).drew (fun h_ => ?_)
    refine tJ 0 89 ?_
    try simp only [pu]
    refine tT [1] (i := 1) (oi := ⟨some 90, _, _, _, _, _⟩) (v := ?_) rfl (Or.inl ⟨by rfl, ?_⟩) h_ ?_
    rotate_left
    ·intro w' hSw
     have cv := (HCE.out _ hSw).1
     go_simp
     first | done | rfl
    try simp only [pu]
    refine tJ 2 91 ?_
    try simp only [pu]
    refine tJ 3 92 ?_
    try simp only [pu]
    refine tJ 4 93 ?_
    try simp only [pu]
    refine tT [5] (i := 5) (oi := ⟨some 94, _, _, _, _, _⟩) (v := ?_) rfl (Or.inl ⟨by rfl, ?_⟩) h_ ?_
    rotate_left
    ·intro w' hSw
     have cv := (HCE.out _ hSw).2.2.1
     go_simp
     first | done | rfl
    try simp only [pu]
    refine tJ 8 97 ?_
    try simp only [pu]
    refine tT [9] (i := 9) (oi := ⟨some 98, _, _, _, _, _⟩) (v := ?_) rfl (Or.inl ⟨by rfl, ?_⟩) h_ ?_
    rotate_left
    ·intro w' hSw
     have cv := (HCE.out _ hSw).2.1
     go_simp
     first | done | rfl
    try simp only [pu]
    refine tT [10, 11, 12] (i := 10) (oi := ⟨some 99, _, _, _, _, _⟩) (v := _) rfl (yieldsIf_load_mid (by rfl) _ _ rfl _ _ rfl zs _ (fun w' h => blk_rngL (HCE.out _ h).2.2.2) Tryz.underlying31 rfl HSZ.out) h_ ?_
    try simp only [pu]
    refine wpAnyT_two (i := 6) (j := 11) (oi := ⟨some 95, _, _, _, _, _⟩) (oj := ⟨some 100, _, _, _, _, _⟩) (by kernel_rfl) rfl rfl (fun K hK => ?_) (fun K hK => ?_)
    ·go_simp
     refine gen_KA (fun V => Keeps (fun _ => False) u6.drew V ∧ Blk V u6.drew.heap.size 9 [.string key]) ⟨(Keeps.refl _ _).alloc _, Blk.new _ _ _⟩ ?_
     rintro v6 ⟨k6, b6⟩
     have h6 := h_.trans k6 (fun _ _ h => h.elim)
     refine hK.out _ _ h6 (fun h_ => ?_)
     clear hK K
     try simp only [pu]
     refine wpAnyT_two (i := 7) (j := 11) (oi := ⟨some 96, _, _, _, _, _⟩) (oj := ⟨some 100, _, _, _, _, _⟩) (by kernel_rfl) rfl rfl (fun K hK => ?_) (fun K hK => ?_)
     ·refine step_append_own rfl (.tmp 90) (.tmp 95) 29 rfl 9 (.string .empty) 1 16 Tryz.underlying29 (by kernel_rfl) rfl (by decide) B1 mq d1 _ rfl (HT0.out.keep (((Keeps.refl (fun _ => False) u6).drew).trans k6 (fun _ _ h => h))).two.a.1 ⟨u6.drew.heap.size, 0, none⟩ 1 1 [.string key] rfl rfl (fun j u hu => by rw [add_at, Nat.zero_add, b6.cell]; exact hu) (by intro u hu; rw [List.mem_singleton.1 hu]; rfl) (by simp only [maxLen]; omega) (by omega) ?_
      intro B7 d7 v6_7 ho7 hg7 hb7
      have HT7 := H_ ((HT0.out.keep (((Keeps.refl (fun _ => False) u6).drew).trans k6 (fun _ _ h => h))).app ho7 hg7 hb7)
      have hB7 : ∀ g, (Value.slice B7 (mq + 1) d7).ownBlock = some g → (Value.slice B1 mq d1).ownBlock = some g ∨ u6.heap.size ≤ g := fun g e => hb7.elim (fun h1 => .inl (h1 ▸ e)) (fun h1 => .inr (by rw [h1] at e; injection e with e; rw [← e]; exact h_.size))
      have hS7 := h_.grown hg7 (fun g e => .inl (.inl e))
      refine hK.out _ _ hS7 (fun h_ => ?_)
      clear hK K
      try simp only [pu]
      refine tJ 13 102 ?_
      try simp only [pu]
      refine wpAnyT_step (i := 11) (o := ⟨some 100, _, _, _, _, _⟩) (by kernel_rfl) rfl (fun K hK => ?_)
      refine step_box_S rfl 28 31 (.tmp 99) rfl (.agg #[.int .i64 0, .bool false, .int .u64 0, .string .empty, .slice none 0 0, .slice none 0 0]) 6 Tryz.underlying28 (by kernel_rfl) (by decide) (by decide) zs HZ6.out rfl ?_
      refine gen_KA (fun V => Keeps (fun _ => False) v6_7 V ∧ Blk V v6_7.heap.size 31 zs) ⟨(Keeps.refl _ _).alloc _, Blk.new _ _ _⟩ ?_
      rintro v6_7_11 ⟨k6_7_11, b11⟩
      have h6_7_11 := h_.trans k6_7_11 (fun _ _ h => h.elim)
      refine hK.out _ _ h6_7_11 (fun h_ => ?_)
      clear hK K
      try simp only [pu]
      refine wpAnyT_step (i := 12) (o := ⟨some 101, _, _, _, _, _⟩) (by kernel_rfl) rfl (fun K hK => ?_)
      refine step_append_own rfl (.tmp 98) (.tmp 100) 28 rfl 31 (.agg #[.int .i64 0, .bool false, .int .u64 0, .string .empty, .slice none 0 0, .slice none 0 0]) 6 88 Tryz.underlying28 (by kernel_rfl) rfl (by decide) A1 mq c1 _ rfl (HT7.out.swap.keep ((Keeps.refl (fun _ => False) _).trans k6_7_11 (fun _ _ h => h))).two.a.1 ⟨v6_7.heap.size, 0, none⟩ 1 1 zs rfl (by rw [HZ6.out]) (fun j u hu => by rw [add_at, Nat.zero_add, b11.cell]; exact hu) HZ1.out (by simp only [maxLen]; omega) (by omega) ?_
      intro A12 c12 v12 ho12 hg12 hb12
      have HT12 := H_ (((HT7.out.swap.keep ((Keeps.refl (fun _ => False) _).trans k6_7_11 (fun _ _ h => h))).app ho12 hg12 hb12).swap)
      have hA12 : ∀ g, (Value.slice A12 (mq + 1) c12).ownBlock = some g → (Value.slice A1 mq c1).ownBlock = some g ∨ u6.heap.size ≤ g := fun g e => hb12.elim (fun h1 => .inl (h1 ▸ e)) (fun h1 => .inr (by rw [h1] at e; injection e with e; rw [← e]; exact h_.size))
      have hS12 := h_.grown hg12 (fun g e => .inl (.inr e))
      refine hK.out _ _ hS12 (fun h_ => ?_)
      clear hK K
      try simp only [pu]
      refine wpAnyT_tail (i := 14) (o := ⟨none, _, _, _, _, _⟩) (by kernel_rfl) (by kernel_rfl) rfl (fun K hK => ?_)
      have cv1 := HT12.out.blk.cell 5
      have fz1 := HT12.out.blk.frozen 5
      go_simp
      have HT14 := H_ (HT12.out.set 5 (.slice B7 (mq + 1) d7))
      refine hK.out _ _ ?_
      clear hK K
      try simp only [pu]
      refine wpAnyT_tail (i := 15) (o := ⟨some 103, _, _, _, _, _⟩) (by kernel_rfl) (by kernel_rfl) rfl (fun K hK => ?_)
      go_simp
      refine hK.out _ _ ?_
      clear hK K
      try simp only [pu]
      refine wpAnyT_tail (i := 16) (o := ⟨none, _, _, _, _, _⟩) (by kernel_rfl) (by kernel_rfl) rfl (fun K hK => ?_)
      have cv2 := HT14.out.blk.cell 4
      have fz2 := HT14.out.blk.frozen 4
      go_simp
      refine hK.out _ _ ?_
      clear hK K
      try simp only [pu]
      refine wpAnyT_done (by kernel_rfl) ?_
      have HEND := H_ (HS6.out.more HM.out HRB.out hS12 HT12.out hB7 hA12)
      obtain ⟨w22, hw22⟩ : ∃ w22, w22 = (v12.setCell ⟨p, 5, none⟩ (.slice B7 (mq + 1) d7)).setCell ⟨p, 4, none⟩ (.slice A12 (mq + 1) c12) := ⟨_, rfl⟩
      rw [← hw22] at HEND ⊢
      clear hw22 cv1 fz1 cv2 fz2 hS12 hB7 hA12
      go_wp2
      go_roundg (m - (i + 1))
      case measure => rw [HGK.out]; omega
      case rel => exact ⟨i + 1, B7, d7, A12, c12, _, A10, n3 + n9, c10, by omega, rfl, by go_num, rfl, H_ (by rw [HSN1.out, HFL.out]; exact HEND.out)⟩
     refine step_box_S rfl 28 31 (.tmp 99) rfl (.agg #[.int .i64 0, .bool false, .int .u64 0, .string .empty, .slice none 0 0, .slice none 0 0]) 6 Tryz.underlying28 (by kernel_rfl) (by decide) (by decide) zs HZ6.out rfl ?_
     refine gen_KA (fun V => Keeps (fun _ => False) v6 V ∧ Blk V v6.heap.size 31 zs) ⟨(Keeps.refl _ _).alloc _, Blk.new _ _ _⟩ ?_
     rintro v6_11 ⟨k6_11, b11⟩
     replace b6 := k6_11.blk b6 (fun h => h)
     have h6_11 := h_.trans k6_11 (fun _ _ h => h.elim)
     refine hK.out _ _ h6_11 (fun h_ => ?_)
     clear hK K
     try simp only [pu]
     refine wpAnyT_step (i := 7) (o := ⟨some 96, _, _, _, _, _⟩) (by kernel_rfl) rfl (fun K hK => ?_)
     refine step_append_own rfl (.tmp 90) (.tmp 95) 29 rfl 9 (.string .empty) 1 16 Tryz.underlying29 (by kernel_rfl) rfl (by decide) B1 mq d1 _ rfl (HT0.out.keep ((((Keeps.refl (fun _ => False) u6).drew).trans k6 (fun _ _ h => h)).trans k6_11 (fun _ _ h => h))).two.a.1 ⟨u6.drew.heap.size, 0, none⟩ 1 1 [.string key] rfl rfl (fun j u hu => by rw [add_at, Nat.zero_add, b6.cell]; exact hu) (by intro u hu; rw [List.mem_singleton.1 hu]; rfl) (by simp only [maxLen]; omega) (by omega) ?_
     intro B7 d7 v6_11_7 ho7 hg7 hb7
     have HT7 := H_ ((HT0.out.keep ((((Keeps.refl (fun _ => False) u6).drew).trans k6 (fun _ _ h => h)).trans k6_11 (fun _ _ h => h))).app ho7 hg7 hb7)
     have hB7 : ∀ g, (Value.slice B7 (mq + 1) d7).ownBlock = some g → (Value.slice B1 mq d1).ownBlock = some g ∨ u6.heap.size ≤ g := fun g e => hb7.elim (fun h1 => .inl (h1 ▸ e)) (fun h1 => .inr (by rw [h1] at e; injection e with e; rw [← e]; exact h_.size))
     replace b11 := (Keeps.of_grown hg7).blk b11 (fun e => by have h1 := HT0.out.two.a.own_lt e; have h2 := (((Keeps.refl (fun _ => False) u6).drew).trans k6 (fun _ _ h => h)).size; omega)
     have hS7 := h_.grown hg7 (fun g e => .inl (.inl e))
     refine hK.out _ _ hS7 (fun h_ => ?_)
     clear hK K
     try simp only [pu]
     refine tJ 13 102 ?_
     try simp only [pu]
     refine wpAnyT_step (i := 12) (o := ⟨some 101, _, _, _, _, _⟩) (by kernel_rfl) rfl (fun K hK => ?_)
     refine step_append_own rfl (.tmp 98) (.tmp 100) 28 rfl 31 (.agg #[.int .i64 0, .bool false, .int .u64 0, .string .empty, .slice none 0 0, .slice none 0 0]) 6 88 Tryz.underlying28 (by kernel_rfl) rfl (by decide) A1 mq c1 _ rfl (HT7.out.swap.keep (Keeps.refl (fun _ => False) _)).two.a.1 ⟨v6.heap.size, 0, none⟩ 1 1 zs rfl (by rw [HZ6.out]) (fun j u hu => by rw [add_at, Nat.zero_add, b11.cell]; exact hu) HZ1.out (by simp only [maxLen]; omega) (by omega) ?_
     intro A12 c12 v12 ho12 hg12 hb12
     have HT12 := H_ (((HT7.out.swap.keep (Keeps.refl (fun _ => False) _)).app ho12 hg12 hb12).swap)
     have hA12 : ∀ g, (Value.slice A12 (mq + 1) c12).ownBlock = some g → (Value.slice A1 mq c1).ownBlock = some g ∨ u6.heap.size ≤ g := fun g e => hb12.elim (fun h1 => .inl (h1 ▸ e)) (fun h1 => .inr (by rw [h1] at e; injection e with e; rw [← e]; exact h_.size))
     have hS12 := h_.grown hg12 (fun g e => .inl (.inr e))
     refine hK.out _ _ hS12 (fun h_ => ?_)
     clear hK K
     try simp only [pu]
     refine wpAnyT_tail (i := 14) (o := ⟨none, _, _, _, _, _⟩) (by kernel_rfl) (by kernel_rfl) rfl (fun K hK => ?_)
     have cv1 := HT12.out.blk.cell 5
     have fz1 := HT12.out.blk.frozen 5
     go_simp
     have HT14 := H_ (HT12.out.set 5 (.slice B7 (mq + 1) d7))
     refine hK.out _ _ ?_
     clear hK K
     try simp only [pu]
     refine wpAnyT_tail (i := 15) (o := ⟨some 103, _, _, _, _, _⟩) (by kernel_rfl) (by kernel_rfl) rfl (fun K hK => ?_)
     go_simp
     refine hK.out _ _ ?_
     clear hK K
     try simp only [pu]
     refine wpAnyT_tail (i := 16) (o := ⟨none, _, _, _, _, _⟩) (by kernel_rfl) (by kernel_rfl) rfl (fun K hK => ?_)
     have cv2 := HT14.out.blk.cell 4
     have fz2 := HT14.out.blk.frozen 4
     go_simp
     refine hK.out _ _ ?_
     clear hK K
     try simp only [pu]
     refine wpAnyT_done (by kernel_rfl) ?_
     have HEND := H_ (HS6.out.more HM.out HRB.out hS12 HT12.out hB7 hA12)
     obtain ⟨w22, hw22⟩ : ∃ w22, w22 = (v12.setCell ⟨p, 5, none⟩ (.slice B7 (mq + 1) d7)).setCell ⟨p, 4, none⟩ (.slice A12 (mq + 1) c12) := ⟨_, rfl⟩
     rw [← hw22] at HEND ⊢
     clear hw22 cv1 fz1 cv2 fz2 hS12 hB7 hA12
     go_wp2
     go_roundg (m - (i + 1))
     case measure => rw [HGK.out]; omega
     case rel => exact ⟨i + 1, B7, d7, A12, c12, _, A10, n3 + n9, c10, by omega, rfl, by go_num, rfl, H_ (by rw [HSN1.out, HFL.out]; exact HEND.out)⟩
    refine step_box_S rfl 28 31 (.tmp 99) rfl (.agg #[.int .i64 0, .bool false, .int .u64 0, .string .empty, .slice none 0 0, .slice none 0 0]) 6 Tryz.underlying28 (by kernel_rfl) (by decide) (by decide) zs HZ6.out rfl ?_
    refine gen_KA (fun V => Keeps (fun _ => False) u6.drew V ∧ Blk V u6.drew.heap.size 31 zs) ⟨(Keeps.refl _ _).alloc _, Blk.new _ _ _⟩ ?_
    rintro v11 ⟨k11, b11⟩
    have h11 := h_.trans k11 (fun _ _ h => h.elim)
    refine hK.out _ _ h11 (fun h_ => ?_)
    clear hK K
    try simp only [pu]
    refine wpAnyT_step (i := 6) (o := ⟨some 95, _, _, _, _, _⟩) (by kernel_rfl) rfl (fun K hK => ?_)
    go_simp
    refine gen_KA (fun V => Keeps (fun _ => False) v11 V ∧ Blk V v11.heap.size 9 [.string key]) ⟨(Keeps.refl _ _).alloc _, Blk.new _ _ _⟩ ?_
    rintro v11_6 ⟨k11_6, b6⟩
    replace b11 := k11_6.blk b11 (fun h => h)
    have h11_6 := h_.trans k11_6 (fun _ _ h => h.elim)
    refine hK.out _ _ h11_6 (fun h_ => ?_)
    clear hK K
    try simp only [pu]
    refine wpAnyT_step (i := 7) (o := ⟨some 96, _, _, _, _, _⟩) (by kernel_rfl) rfl (fun K hK => ?_)
    refine step_append_own rfl (.tmp 90) (.tmp 95) 29 rfl 9 (.string .empty) 1 16 Tryz.underlying29 (by kernel_rfl) rfl (by decide) B1 mq d1 _ rfl (HT0.out.keep ((((Keeps.refl (fun _ => False) u6).drew).trans k11 (fun _ _ h => h)).trans k11_6 (fun _ _ h => h))).two.a.1 ⟨v11.heap.size, 0, none⟩ 1 1 [.string key] rfl rfl (fun j u hu => by rw [add_at, Nat.zero_add, b6.cell]; exact hu) (by intro u hu; rw [List.mem_singleton.1 hu]; rfl) (by simp only [maxLen]; omega) (by omega) ?_
    intro B7 d7 v11_6_7 ho7 hg7 hb7
    have HT7 := H_ ((HT0.out.keep ((((Keeps.refl (fun _ => False) u6).drew).trans k11 (fun _ _ h => h)).trans k11_6 (fun _ _ h => h))).app ho7 hg7 hb7)
    have hB7 : ∀ g, (Value.slice B7 (mq + 1) d7).ownBlock = some g → (Value.slice B1 mq d1).ownBlock = some g ∨ u6.heap.size ≤ g := fun g e => hb7.elim (fun h1 => .inl (h1 ▸ e)) (fun h1 => .inr (by rw [h1] at e; injection e with e; rw [← e]; exact h_.size))
    replace b11 := (Keeps.of_grown hg7).blk b11 (fun e => by have h1 := HT0.out.two.a.own_lt e; have h2 := ((Keeps.refl (fun _ => False) u6).drew).size; omega)
    have hS7 := h_.grown hg7 (fun g e => .inl (.inl e))
    refine hK.out _ _ hS7 (fun h_ => ?_)
    clear hK K
    try simp only [pu]
    refine tJ 13 102 ?_
    try simp only [pu]
    refine wpAnyT_step (i := 12) (o := ⟨some 101, _, _, _, _, _⟩) (by kernel_rfl) rfl (fun K hK => ?_)
    refine step_append_own rfl (.tmp 98) (.tmp 100) 28 rfl 31 (.agg #[.int .i64 0, .bool false, .int .u64 0, .string .empty, .slice none 0 0, .slice none 0 0]) 6 88 Tryz.underlying28 (by kernel_rfl) rfl (by decide) A1 mq c1 _ rfl (HT7.out.swap.keep (Keeps.refl (fun _ => False) _)).two.a.1 ⟨u6.drew.heap.size, 0, none⟩ 1 1 zs rfl (by rw [HZ6.out]) (fun j u hu => by rw [add_at, Nat.zero_add, b11.cell]; exact hu) HZ1.out (by simp only [maxLen]; omega) (by omega) ?_
    intro A12 c12 v12 ho12 hg12 hb12
    have HT12 := H_ (((HT7.out.swap.keep (Keeps.refl (fun _ => False) _)).app ho12 hg12 hb12).swap)
    have hA12 : ∀ g, (Value.slice A12 (mq + 1) c12).ownBlock = some g → (Value.slice A1 mq c1).ownBlock = some g ∨ u6.heap.size ≤ g := fun g e => hb12.elim (fun h1 => .inl (h1 ▸ e)) (fun h1 => .inr (by rw [h1] at e; injection e with e; rw [← e]; exact h_.size))
    have hS12 := h_.grown hg12 (fun g e => .inl (.inr e))
    refine hK.out _ _ hS12 (fun h_ => ?_)
    clear hK K
    try simp only [pu]
    refine wpAnyT_tail (i := 14) (o := ⟨none, _, _, _, _, _⟩) (by kernel_rfl) (by kernel_rfl) rfl (fun K hK => ?_)
    have cv1 := HT12.out.blk.cell 5
    have fz1 := HT12.out.blk.frozen 5
    go_simp
    have HT14 := H_ (HT12.out.set 5 (.slice B7 (mq + 1) d7))
    refine hK.out _ _ ?_
    clear hK K
    try simp only [pu]
    refine wpAnyT_tail (i := 15) (o := ⟨some 103, _, _, _, _, _⟩) (by kernel_rfl) (by kernel_rfl) rfl (fun K hK => ?_)
    go_simp
    refine hK.out _ _ ?_
    clear hK K
    try simp only [pu]
    refine wpAnyT_tail (i := 16) (o := ⟨none, _, _, _, _, _⟩) (by kernel_rfl) (by kernel_rfl) rfl (fun K hK => ?_)
    have cv2 := HT14.out.blk.cell 4
    have fz2 := HT14.out.blk.frozen 4
    go_simp
    refine hK.out _ _ ?_
    clear hK K
    try simp only [pu]
    refine wpAnyT_done (by kernel_rfl) ?_
    have HEND := H_ (HS6.out.more HM.out HRB.out hS12 HT12.out hB7 hA12)
    obtain ⟨w22, hw22⟩ : ∃ w22, w22 = (v12.setCell ⟨p, 5, none⟩ (.slice B7 (mq + 1) d7)).setCell ⟨p, 4, none⟩ (.slice A12 (mq + 1) c12) := ⟨_, rfl⟩
    rw [← hw22] at HEND ⊢
    clear hw22 cv1 fz1 cv2 fz2 hS12 hB7 hA12
    go_wp2
    go_roundg (m - (i + 1))
    case measure => rw [HGK.out]; omega
    case rel => exact ⟨i + 1, B7, d7, A12, c12, _, A10, n3 + n9, c10, by omega, rfl, by go_num, rfl, H_ (by rw [HSN1.out, HFL.out]; exact HEND.out)⟩
  obtain rfl : i = m := by omega
  have hcsl : cs.take i = cs := List.take_of_length_le (by rw [H6.out.1]; exact Nat.le_refl _)
  have hrr := HR.out
  rw [HUN.out] at hrr
  have hrb : RbS (fun i => D i ∨ w4.heap.size ≤ i) w4 wr p B1 d1 A1 c1 ((keyed F1 cs).map (·.1)) css ((keyed F1 cs).map (·.2)) := by
   have h9 := HO.out.rl.rb
   rw [hcsl] at h9
   exact ⟨h9.two, h9.lst.mono fun q hq _ => ⟨hq.1.1, hq.2⟩, h9.len⟩
  have hme : MineS 1 (backW wr w6.heap.size) wr 9 A3 n3 c3 ((cs.flatMap F2).map .string) := by
   have h9 := HO.out.own
   rw [hcsl] at h9
   have hs := HO.out.rl.keep.size
   exact ⟨h9, backW_keeps hs, fun g hg => by rw [backW_size hs]; exact HO.out.lo g hg⟩
  have hsz : (backW wr w6.heap.size).heap.size = w6.heap.size := backW_size HO.out.rl.keep.size
  have hin3 := MineS.inB hme
  rw [hsz] at hin3
  have hbb := HK1.out.1.blk H4.out.k8 (fun h => h)
  obtain ⟨ks, hks⟩ : ∃ ks, ks = (keyed F1 cs).map (·.1) := ⟨_, rfl⟩
  obtain ⟨js, hjs⟩ : ∃ js, js = (keyed F1 cs).map (·.2) := ⟨_, rfl⟩
  obtain ⟨ys, hys⟩ : ∃ ys, ys = cs.flatMap F2 := ⟨_, rfl⟩
  rw [← hks, ← hjs] at hrb
  rw [← hys] at hme
  have hrr2 : three o (some (.obj kx lx)) (some (.obj ky ly)) way = (some (.obj ks js), ys) := by rw [hrr, hks, hjs, hys, HFF.out.1, HFF.out.2]
  have HRR := H_ hrr2
  obtain ⟨mq, hmq⟩ : ∃ mq, mq = ks.length := ⟨_, rfl⟩
  have hend := rl_fin hrb HH.out.low H4.out.keep H4.out.lo.1 H4.out.k8.lt hbb
  have hpp := hrb.two.blk
  rw [← hmq] at hend hpp
  have HEND := H_ hend
  have HPB := H_ hpp
  have HBB := H_ hbb
  have HRD : Hid (Rd wr A3 n3 (ys.map .string) ∧ ys.length = n3 ∧ InB (fun i => w6.heap.size ≤ i) A3 n3) := H_ ⟨MineS.rd hme, by have := hme.len; rw [List.length_map] at this; omega, hin3⟩
  have HB8 : Hid (b8 < w4.heap.size ∧ w4.heap.size ≤ w6.heap.size ∧ w.heap.size ≤ w6.heap.size) := H_ ⟨H4.out.k8.lt, HO.out.le, Nat.le_trans H4.out.keep.size HO.out.le⟩
  clear hend hpp hbb hks hjs hrb hmq hcsl hrr hrr2 hme hsz hin3 hys
  go_wp2_with (first
   | ((with_reducible show wpList _ _ _ (⟨some 104, _, _, _, _, _⟩ :: _) _ _); refine wpList_load_whole rfl 31 _ rfl _ rfl HPB.out Tryz.underlying31 rfl (by kernel_rfl) ?_)
   | ((with_reducible show wpList _ _ _ (⟨none, Op.store 31 _ (.tmp 104), _, _, _, _⟩ :: _) _ _); refine wpList_store_whole rfl 31 _ _ rfl [.int .i64 6, .bool false, .int .u64 0, .string .empty, .slice A1 mq c1, .slice B1 mq d1] rfl rfl HBB.out rfl (by kernel_rfl) (by intro x hx; simp only [List.mem_cons, List.not_mem_nil, or_false] at hx; rcases hx with rfl | rfl | rfl | rfl | rfl | rfl <;> rfl) ?_))
  obtain ⟨v9, he9, hr9, hk9⟩ := HEND.out.2
  refine bodyPost_ret (results_blk_t1 rfl _ _ rfl HEND.out.1 Tryz.underlying31 rfl (by kernel_rfl)) rfl ?_
  rw [HRR.out]
  injection he9 with he9
  refine ⟨v9, A3, n3, c3, by rw [← he9]; rfl, hr9, HRD.out.1.keep (setRow_keep _ _ _) (HRD.out.2.2.out fun q hq e => by have := HB8.out; omega), HRD.out.2.1, HRD.out.2.2.mono fun q hq => Nat.le_trans HB8.out.2.2 hq, hk9⟩
theorem rth_any : ∀ x, OOk x → ∀ {D : Nat → Prop} {w : World} {vo vx vy : List Value} {o y : Option JV} {Wa : Option Addr} {wn : Nat} (wc0 : Nat) {way : List ByteArray}, RThIn D w vo vx vy o x y Wa wn way →
  Calls Tryz.prog 10 #[.agg vo.toArray, .agg vx.toArray, .agg vy.toArray, .slice Wa wn wc0] w (RThPost D w (three o x y way)) := by
 refine opt_parts fun x hx ih D w vo vx vy o y Wa wn wc0 way h => ?_
 by_cases h1 : x = y ∨ y = o
 ·exact rth_first h wc0 (.inl h1)
 by_cases h2 : x = o
 ·exact rth_first h wc0 (.inr h2)
 by_cases h3 : sortO x = 6 ∧ sortO y = 6
 ·obtain ⟨kx, lx, rfl⟩ := sortO_obj h3.1
  obtain ⟨ky, ly, rfl⟩ := sortO_obj h3.2
  exact rth_both h wc0 h1 h2 fun key D' W vo' vx' vy' o' y' Wa' wn' wc' way' hin => ih rfl key wc' hin
 exact rth_clash h wc0 h1 h2 h3
end Go.Proofs.YtdmcioghdindfaaGreatDoor
