/- Texts. -/
import Derived.Test.YtplleficmkfniaaGreatDoorS29
set_option linter.unusedSimpArgs false
set_option maxRecDepth 100000
set_option maxHeartbeats 4000000
namespace Go.Proofs.YtplleficmkfniaaGreatDoor
open Go Go.RowKit Go.Aff Go.Json Go.Rng Go.Shelf Go.Dig Go.Book
attribute [local go_sem] Oper.semAt_some
structure WiIn (fv : Value) (D E : Nat → Prop) (w : World) (l : List (List Int)) (v : Value) (j : JV) : Prop where
 st : Tkg (TkSt fv) E w l
 at_ : JAt D w v j
 off : ∀ i, D i → ¬ E i
 room : l.length + 8 * j.nodes ≤ 1099511627776
def WiPost (fv : Value) (E : Nat → Prop) (w : World) (l : List (List Int)) (j : JV) (e : Ending) (w' : World) : Prop :=
 ∃ A c E', e = .returned (.slice A j.items.length c) ∧ Took (TkSt fv) E E' w w' (l ++ withN j j.items.length) ∧ RdD w' A j.items.length (rowOf j) ∧ Out E' A j.items.length ∧ j.items.length ≤ c ∧ InB (fun i => w.heap.size ≤ i) A j.items.length
def OfAll (fv : Value) (j : JV) : Prop := ∀ x ∈ j.items, ∀ (D E : Nat → Prop) (w : World) (l : List (List Int)) (v : Value), WiIn fv D E w l v x → Calls Tryz.prog 67 #[fv, .agg #[v]] w (DOf fv E w l x)
structure WiS (fv : Value) (E : Nat → Prop) (w5 : World) (l : List (List Int)) (j : JV) (pl : Nat) (pre : List (Fin j.items.length)) (W : World) (A : Option Addr) (c : Nat) (E1 : Nat → Prop) : Prop where
 st : Tkg (TkSt fv) E1 W (l ++ withN j pre.length)
 new : ∀ i, E1 i → E i ∨ w5.heap.size ≤ i
 keep : Keeps (fun i => E i ∨ i = pl) w5 W
 plE : ¬ E1 pl
 var : Blk W pl 65 [.slice A pre.length c]
 row : W.ownsRow 0 23 32 (.slice A pre.length c) pre.length (dg ((rowOf j).take pre.length))
 lo : ∀ g, (Value.slice A pre.length c).ownBlock = some g → w5.heap.size ≤ g ∧ ¬ E1 g
 few : pre.length ≤ j.items.length
def WiI (fv : Value) (E : Nat → Prop) (w5 : World) (l : List (List Int)) (j : JV) (pl : Nat) (pre : List (Fin j.items.length)) (W : World) : Prop := ∃ A c E1, WiS fv E w5 l j pl pre W A c E1
theorem _root_.Go.Rng.CK.up {m : Nat} {W W' : World} (k : CK m W W') : Keeps (fun i => m ≤ i) W W' := ⟨k.os, k.tape, k.output, k.size, fun i hi hn => k.low i (by omega) hi⟩
theorem _root_.Go.Aff.LogSt.ck {T RT BT : TypeId} {E : Nat → Prop} {w w' : World} {p m : Nat} {l : List (List Int)} (h : LogSt T RT BT E w p l) (k : CK m w w') : LogSt T RT BT E w' p l := by
 obtain ⟨A, c, vals, gs, h⟩ := h
 exact ⟨A, c, vals, gs, k.blk h.box, h.inE, k.own h.row, h.rowE, h.len, h.nd, fun i g bs h1 h2 => by
  obtain ⟨h3, ci, h4, h5⟩ := h.at_ i g bs h1 h2
  exact ⟨h3, ci, h4, k.own h5⟩⟩
theorem Tkg.ck {fv : Value} {E : Nat → Prop} {w w' : World} {l : List (List Int)} {m : Nat} (h : Tkg (TkSt fv) E w l) (k : CK m w w') (hm : GT ≤ m) : Tkg (TkSt fv) E w' l :=
 ⟨h.st.imp id fun ⟨p, e, h⟩ => ⟨p, e, h.ck k⟩, fun i hi => by obtain ⟨c, t, fr, h2⟩ := h.cel i hi; exact ⟨c, t, fr, k.cells _ _ _ _ h2⟩, h.gt, h.glob.keep k.up fun i hi => Nat.le_trans hm hi⟩
theorem WiI.ck {fv : Value} {E : Nat → Prop} {w5 W W' : World} {l : List (List Int)} {j : JV} {pl : Nat} {pre : List (Fin j.items.length)} (h : WiI fv E w5 l j pl pre W) (k : CK w5.heap.size W W') (hg : GT ≤ w5.heap.size) : WiI fv E w5 l j pl pre W' := by
 obtain ⟨A, c, E1, h⟩ := h
 exact ⟨A, c, E1, h.st.ck k hg, h.new, k.keeps h.keep (Nat.le_refl _), h.plE, k.blk h.var, k.own h.row, h.lo, h.few⟩
theorem WiI.stay {fv : Value} {E : Nat → Prop} {w5 W W' : World} {l : List (List Int)} {j : JV} {pl : Nat} {pre : List (Fin j.items.length)} (h : WiI fv E w5 l j pl pre W) (k : Keeps (fun _ => False) W W') : WiI fv E w5 l j pl pre W' := by
 obtain ⟨A, c, E1, h⟩ := h
 exact ⟨A, c, E1, h.st.stay (tkLasts _) k, h.new, h.keep.trans k fun _ _ h => h.elim, h.plE, k.blk h.var fun h => h, k.own h.row fun _ _ h => h, h.lo, h.few⟩
theorem WiS.next {fv : Value} {E : Nat → Prop} {w5 W : World} {l : List (List Int)} {j : JV} {pl : Nat} {pre : List (Fin j.items.length)} {A : Option Addr} {c : Nat} {E1 : Nat → Prop} (hh : WiS fv E w5 l j pl pre W A c E1) (hpl : pl < w5.heap.size) (hpg : GT ≤ pl) (hgt : GT ≤ w5.heap.size) {x : Fin j.items.length} (hx : x.val = pre.length) {n : Nat} (hn : n = pre.length)
  {wz w12 : World} {Ez : Nat → Prop} {A' : Option Addr} {c' : Nat} {o : Obj} (hst : Tkg (TkSt fv) Ez wz (l ++ withN j (n + 1))) (hnew : ∀ i, Ez i → E1 i ∨ W.heap.size ≤ i) (hk : Keeps E1 W wz) (hg : (wz.alloc o).grownBy w12 (Value.slice A n c).ownBlock)
  (ho : w12.ownsRow 0 23 32 (.slice A' (n + 1) c') (n + 1) (dg ((rowOf j).take (n + 1)))) (hb : (Value.slice A' (n + 1) c').ownBlock = (Value.slice A n c).ownBlock ∨ (Value.slice A' (n + 1) c').ownBlock = some (wz.alloc o).heap.size) :
  KeepsFrom w5.heap.size W (w12.setCell ⟨pl, 0, none⟩ (.slice A' (n + 1) c')) ∧ Keeps (fun i => E i ∨ i = pl ∨ w5.heap.size ≤ i) W (w12.setCell ⟨pl, 0, none⟩ (.slice A' (n + 1) c')) ∧ WiI fv E w5 l j pl (pre ++ [x]) (w12.setCell ⟨pl, 0, none⟩ (.slice A' (n + 1) c')) := by
 subst hn
 have hsz5 := hh.keep.size
 have hown : ∀ g, (Value.slice A pre.length c).ownBlock = some g → g < W.heap.size := fun g hg => (hh.row.lt g hg).2
 have hnp : (Value.slice A pre.length c).ownBlock ≠ some pl := own_blk hh.row hh.var (by decide)
 have kz : Keeps (fun i => (Value.slice A pre.length c).ownBlock = some i ∨ i = pl) wz (w12.setCell ⟨pl, 0, none⟩ (.slice A' (pre.length + 1) c')) :=
  (((Keeps.refl (fun i => (Value.slice A pre.length c).ownBlock = some i ∨ i = pl) wz).alloc o).grown hg fun g e => .inl (.inl e)).setCell (p := ⟨pl, 0, none⟩) (.inl (.inr rfl)) _
 have kW : Keeps (fun i => E1 i ∨ (Value.slice A pre.length c).ownBlock = some i ∨ i = pl) W (w12.setCell ⟨pl, 0, none⟩ (.slice A' (pre.length + 1) c')) := (hk.mono fun _ _ h => .inl h).trans kz fun i _ e => .inr e
 have hlen : (pre ++ [x]).length = pre.length + 1 := by simp
 have hEz : ∀ i, ((Value.slice A pre.length c).ownBlock = some i ∨ i = pl) → ¬ Ez i := fun i hi he => by
  have h1 := hnew i he
  rcases hi with hi | hi
  ·rcases h1 with h1 | h1
   ·exact (hh.lo i hi).2 h1
   ·have := hown i hi; omega
  ·subst hi
   rcases h1 with h1 | h1
   ·exact hh.plE h1
   ·have := hh.var.lt; omega
 refine ⟨keepsFrom_of _ kW fun i hi => ?_, kW.mono fun i _ hi => ?_, A', c', Ez, ?_⟩
 ·rcases hi with hi | hi | hi
  ·exact hh.st.cel i hi
  ·exact own_cells hh.row i hi
  ·subst hi; exact ⟨_, _, _, hh.var⟩
 ·rcases hi with hi | hi | hi
  ·exact (hh.new i hi).imp id .inr
  ·exact .inr (.inr (hh.lo i hi).1)
  ·exact .inr (.inl hi)
 ·have hwz : W.heap.size ≤ wz.heap.size := hk.size
  have hnew' : ∀ g, (Value.slice A' (pre.length + 1) c').ownBlock = some g → (Value.slice A pre.length c).ownBlock = some g ∨ wz.heap.size ≤ g := fun g hg' => by
   rcases hb with e | e
   ·exact .inl (e ▸ hg')
   ·rw [e] at hg'; injection hg' with hg'; rw [← hg']; exact .inr ((Keeps.refl (fun _ => False) wz).alloc o).size
  have hvar : Blk w12 pl 65 [.slice A pre.length c] := (((Keeps.refl (fun i => (Value.slice A pre.length c).ownBlock = some i) wz).alloc o).grown hg fun g e => .inl e).blk (hk.blk hh.var hh.plE) hnp
  refine ⟨?_, fun i hi => ?_, ?_, hEz pl (.inr rfl), ?_, ?_, ?_, ?_⟩
  ·rw [hlen]
   exact hst.keep (tkLasts _) kz (fun i hi e => hEz i e hi) fun i hi => by
    rcases hi with hi | hi
    ·exact Nat.le_trans hgt (hh.lo i hi).1
    ·subst hi; exact hpg
  ·rcases hnew i hi with e | e
   ·exact hh.new i e
   ·exact .inr (Nat.le_trans hsz5 e)
  ·refine hh.keep.trans kW fun i hi e => ?_
   rcases e with e | e | e
   ·exact (hh.new i e).imp id fun h => by omega
   ·have := (hh.lo i e).1; omega
   ·exact .inr e
  ·rw [hlen]; exact hvar.set_ 0 _
  ·rw [hlen]
   refine ((Keeps.refl (fun i => i = pl) w12).setCell (p := ⟨pl, 0, none⟩) (.inl rfl) _).own ho fun g hg' e => ?_
   subst e
   rcases hnew' g hg' with e | e
   ·exact hnp e
   ·have := hh.var.lt; omega
  ·rw [hlen]
   intro g hg'
   rcases hnew' g hg' with e | e
   ·exact ⟨(hh.lo g e).1, hEz g (.inl e)⟩
   ·exact ⟨by omega, fun he => by have := hst.lt g he; omega⟩
  ·rw [hlen, ← hx]; exact x.isLt
theorem infoDD : (Tryz.prog.info? 23).map (fun i => (i.zero, i.size, i.bytes)) = some (some (Value.agg (vb (List.replicate 32 0)).toArray), 32, 32) := by kernel_rfl
theorem wi_keep {fv : Value} {E1 E2 E3 : Nat → Prop} {W w6 w9 w10 w11 : World} {l6 l10 : List (List Int)} (h6 : Took (TkSt fv) E1 E2 W w6 l6) (k9 : Keeps (fun _ => False) w6 w9) (h10 : Took (TkSt fv) E2 E3 w9 w10 l10) (k11 : Keeps (fun i => i = w6.heap.size) w10 w11) : Keeps E1 W w11 := by
 refine ((h6.keep.trans k9 fun _ _ h => h.elim).trans h10.keep fun i hi e => ?_).trans k11 fun i hi e => ?_
 ·exact (h6.new i e).elim id fun h => by omega
 ·have := h6.keep.size; omega
theorem wi_tkg {fv : Value} {E1 E2 E3 : Nat → Prop} {W w6 w9 w10 w11 : World} {l l6 l10 : List (List Int)} (h0 : Tkg (TkSt fv) E1 W l) (h6 : Took (TkSt fv) E1 E2 W w6 l6) (k9 : Keeps (fun _ => False) w6 w9) (h10 : Took (TkSt fv) E2 E3 w9 w10 l10) (k11 : Keeps (fun i => i = w6.heap.size) w10 w11) (hb : w6.heap.size < w9.heap.size) : Tkg (TkSt fv) E3 w11 l10 ∧ ∀ i, E3 i → E1 i ∨ W.heap.size ≤ i := by
 have hsz := k9.size
 have hs6 := h6.keep.size
 refine ⟨(((h0.next h6).stay (tkLasts _) k9).next h10).keep (tkLasts _) k11 (fun i hi e => ?_) fun i hi => ?_, fun i hi => ?_⟩
 ·subst e
  rcases h10.new _ hi with e | e
  ·exact Nat.lt_irrefl _ (h6.lt _ e)
  ·omega
 ·subst hi; exact Nat.le_trans h0.glob.top hs6
 ·rcases h10.new i hi with e | e
  ·exact h6.new i e
  ·exact .inr (by omega)
theorem gen_worldIn {F : Fence} {n : Nat} {P : Program} {ops : Array Oper} {Q : Exit → Act → World → Prop} {rest : List Oper} {a : Act} {w : World} (R : World → Prop) (hR : R w) (h : ∀ W, R W → wpListIn F n P ops Q rest a W) : wpListIn F n P ops Q rest a w := h w hR
theorem dwithin_any {fv : Value} {D E : Nat → Prop} {w : World} {l : List (List Int)} {v : Value} {j : JV} (h : WiIn fv D E w l v j) (hs : j.sort = 5 ∨ j.sort = 6) (hkl : j.sort = 6 → j.keys.length = j.items.length) (hky : ∀ k ∈ j.keys, k.size ≤ 4194304) (ih : OfAll fv j) :
  Calls Tryz.prog 94 #[fv, .agg #[v]] w (WiPost fv E w l j) := by
 have hdd : ∀ k : Nat, (Fence.wide.depth.isSome = true → 1 ≤ k) := fun k h => by cases h
 obtain ⟨T, y, hv⟩ := h.at_.iface
 subst hv
 obtain ⟨N, hN⟩ : ∃ N, N = w.heap.size := ⟨_, rfl⟩
 have HSO : Hid (∀ W, Calls Tryz.prog 47 #[.agg #[.iface T y]] W fun e w' => e = .returned (.int .i64 j.sort) ∧ Keeps (fun _ => False) W w') := H_ fun W => refsort_any h.at_ W
 have HALL : Hid (∀ W, Calls Tryz.prog 95 #[.agg #[.iface T y]] W fun e w' => e = .returned (.func (.func 160) #[] #[.pointer (some ⟨W.heap.size, 0, none⟩)]) ∧ w' = W.alloc (.cells #[.iface T y] 95)) := H_ fun W => refall_any W T y
 have hfc := fv_cases h.st.st
 have HH := H_ h
 have HS := H_ (And.intro hs (And.intro hkl (And.intro hky ih)))
 have HN := H_ hN
 clear h hs hkl hky ih
 refine (callsIn_wide (n := 8)).1 ?_
 refine callsIn_of_wp_marks Tryz.func94 rfl trivial ?_ rfl
 simp only [Tryz.ntmps94, List.size_toArray, List.length_cons, List.length_nil, Nat.reduceAdd, Nat.reduceSub, Array.replicate_succ, Array.replicate_zero, List.push_toArray, List.append_toArray, List.nil_append, List.cons_append]
 refine wpIn_wide.2 ?_
 go_upto_region 2 with fail
 refine gen_codeF (fun W => Keeps (fun _ => False) w W ∧ W.heap.size = N + 3 ∧ Blk W N 160 [fv] ∧ Blk W (N + 1) 95 [.iface T y] ∧ Blk W (N + 2) 65 [.slice none 0 0]) ?_ ?_
 ·rcases hfc with hfc | ⟨p, hfc⟩
  ·subst hfc
   refine ⟨((((Keeps.refl (fun _ => False) w).alloc _).alloc _).alloc _), by simp [hN], ?_, ?_, ?_⟩
   ·rw [hN]
    exact ((Blk.new w 160 [.nilFunc]).alloc (.cells #[.iface T y] 95)).alloc (.cells #[.slice none 0 0] 65)
   ·have h := (Blk.new (w.alloc (.cells #[.nilFunc] 160)) 95 [.iface T y]).alloc (.cells #[.slice none 0 0] 65)
    rw [World.size_alloc, ← hN] at h
    exact h
   ·have h := Blk.new ((w.alloc (.cells #[.nilFunc] 160)).alloc (.cells #[.iface T y] 95)) 65 [.slice none 0 0]
    rw [World.size_alloc, World.size_alloc, ← hN] at h
    exact h
  ·subst hfc
   refine ⟨((((Keeps.refl (fun _ => False) w).alloc _).alloc _).alloc _), by simp [hN], ?_, ?_, ?_⟩
   ·rw [hN]
    exact ((Blk.new w 160 [takeV p]).alloc (.cells #[.iface T y] 95)).alloc (.cells #[.slice none 0 0] 65)
   ·have h := (Blk.new (w.alloc (.cells #[takeV p] 160)) 95 [.iface T y]).alloc (.cells #[.slice none 0 0] 65)
    rw [World.size_alloc, ← hN] at h
    exact h
   ·have h := Blk.new ((w.alloc (.cells #[takeV p] 160)).alloc (.cells #[.iface T y] 95)) 65 [.slice none 0 0]
    rw [World.size_alloc, World.size_alloc, ← hN] at h
    exact h
 rintro w4 ⟨k4, hsz4, b0, b1, b2⟩
 have hNN := HN.out
 rw [← hNN]
 clear hNN hfc hN
 obtain ⟨N1, hN1⟩ : ∃ N1, N1 = N + 1 := ⟨_, rfl⟩
 obtain ⟨N2, hN2⟩ : ∃ N2, N2 = N + 1 + 1 := ⟨_, rfl⟩
 rw [← hN2, ← hN1]
 have c1 : w4.cell? ⟨N1, 0, none⟩ = some (.iface T y) := by rw [hN1]; exact b1.cell 0
 have HB4 := H_ (And.intro k4 (And.intro hsz4 (And.intro b0 (And.intro b1 b2))))
 have HN12 := H_ (And.intro hN1 hN2)
 clear k4 hsz4 b0 b1 b2 hN1 hN2
 go_wp2_with (go_at_call 95; refine (HALL.out _).mono ?_; rintro e w5 ⟨rfl, hw5⟩; have HW5 := H_ hw5; clear hw5)
 obtain ⟨bx, hbx⟩ : ∃ bx, bx = w4.heap.size := ⟨_, rfl⟩
 have hw5 := HW5.out
 have k45 : Keeps (fun _ => False) w4 w5 := by rw [hw5]; exact (Keeps.refl _ w4).alloc _
 have bbx : Blk w5 bx 95 [.iface T y] := by rw [hw5, hbx]; exact Blk.new _ _ _
 have hsz5 : w5.heap.size = N + 4 := by rw [hw5]; simp [HB4.out.2.1]
 have k05 : Keeps (fun _ => False) w w5 := HB4.out.1.trans k45 fun _ _ h => h
 have hbxN : bx = N + 3 := by rw [hbx]; exact HB4.out.2.1
 have hNw := HN.out
 have hE5 : ∀ i, E i → i < N := fun i hi => by rw [hNw]; exact HH.out.st.lt i hi
 have hN12 := HN12.out
 have hj5 : JAt (fun i => D i ∧ i < N) w5 (.iface T y) j := (HH.out.at_.mono (C := fun i => D i ∧ i < N) fun i h1 h2 => ⟨h1, by rw [hNw]; exact h2⟩).stay k05
 obtain ⟨Ai, vs, hit, hseq⟩ := all_next 7 (fun i => E i ∨ i = N2 ∨ w5.heap.size ≤ i) w5 bx (.iface T y) j bbx (by rintro (e | e | e); have := hE5 _ e; omega; omega; omega) hj5 (fun i hi e => by
  have h1 := hi.2
  rcases e with e | e | e
  ·exact HH.out.off i hi.1 e
  ·omega
  ·omega) (fun i hi => .inr (.inr hi)) (by have := len_nodes j.items; have h3 := JV.nodes_eq j; have := HH.out.room; omega)
 have b2' : Blk w5 N2 65 [.slice none 0 0] := by rw [hN12.2]; exact k45.blk HB4.out.2.2.2.2 fun h => h
 have hI0 : WiI fv E w5 l j N2 [] w5 := ⟨none, 0, E, by
  have h1 := HH.out.st.stay (tkLasts _) k05
  show Tkg (TkSt fv) E w5 (l ++ [])
  rwa [List.append_nil], fun i hi => .inl hi, Keeps.refl _ _, fun e => by have := hE5 _ e; omega, b2', World.ownsRow_nil _ _ _ _, fun g hg => (by cases hg), Nat.zero_le _⟩
 have hgt5 : GT ≤ w5.heap.size := Nat.le_trans HH.out.st.glob.top k05.size
 rw [← hbx]
 have HW := H_ (And.intro k05 (And.intro hsz5 (And.intro hbxN (And.intro hE5 (And.intro hN12 (And.intro hgt5 hNw))))))
 have HB5 := H_ (And.intro (k45.blk HB4.out.2.2.1 fun h => h) (And.intro (k45.blk HB4.out.2.2.2.1 fun h => h) b2'))
 have HIT := H_ hit
 have HJ5 := H_ hj5
 clear hw5 HW5 k45 bbx hsz5 k05 hbxN hNw hE5 hN12 hj5 b2' hit hbx c1
 refine (wpIn_wide (n := 8)).1 ?_
 refine wpIn_rangeFunc_nextH (by omega) (gf := 160) (lb := #[.pointer (some ⟨bx, 0, none⟩)]) rfl (enters_of Tryz.func160 (by kernel_rfl) rfl)
  hseq (fun h k => h.trans k (fun _ _ h => h)) (fun W l' o o' h1 h2 h3 _ => keeps_put W l' o' (.inr (.inr h1))) (fun _ => rfl)
  (WiI fv E w5 l j N2) (fun _ _ _ => False) (ownFrom_cells _ _ fun pre W W' h k => h.ck k hgt5) (fun _ _ _ _ _ h _ _ => h) hI0
  (fun x a' W => ∃ p5, a' = { tmps := #[fv, .agg #[.iface T y], .pointer (some ⟨N, 0, none⟩), .pointer (some ⟨N1, 0, none⟩), .slice none 0 0, .pointer (some ⟨N2, 0, none⟩), .string (keyAt j x.val), .pointer (some ⟨p5, 0, none⟩), undef, .agg #[.iface T y], .func (.func 160) #[] #[.pointer (some ⟨bx, 0, none⟩)], .string (keyAt j x.val), .agg #[vs.getD x.val .nilIface], undef, undef, undef, undef, undef, undef, undef, undef, undef, undef, undef, undef, undef, undef, undef], defers := [] } ∧ Blk W p5 95 [vs.getD x.val .nilIface] ∧ w5.heap.size ≤ p5)
  (fun x a' => ownFrom_cells _ _ fun _ W W' h k => by obtain ⟨p5, h1, h2, h3⟩ := h; exact ⟨p5, h1, k.blk h2, h3⟩) ?assign ?body ?done ?stop
 case assign =>
  intro l' pre x W K hI hK
  obtain ⟨u0, hu0⟩ : ∃ u0, vs[x.val]? = some u0 := ⟨_, List.getElem?_eq_getElem (by rw [HIT.out.rd.1]; exact x.isLt)⟩
  obtain ⟨x0, hx0⟩ : ∃ x0, j.items[x.val]? = some x0 := ⟨_, List.getElem?_eq_getElem x.isLt⟩
  obtain ⟨T2, y2, hu⟩ := (HIT.out.at_ _ _ _ hu0 hx0).iface
  have hgd : vs.getD x.val .nilIface = .iface T2 y2 := by rw [List.getD_eq_getElem?_getD, hu0, hu]; rfl
  obtain ⟨ky, hky⟩ : ∃ ky, ky = keyAt j x.val := ⟨_, rfl⟩
  simp only [encA]
  rw [hgd, ← hky] at hK ⊢
  have HKK := H_ hK
  have HII := H_ hI
  have hz := Blk.new W 95 [.nilIface]
  have f0 := hz.frozen 0
  clear hK hI hu0 hx0 hu hgd hky hz
  gi_wp2
  have hka : Keeps (fun _ => False) W (W.alloc (.cells #[.iface T2 y2] 95)) := (Keeps.refl _ W).alloc _
  have hbW : w5.heap.size ≤ W.heap.size := by
   obtain ⟨A, c, E1, hh⟩ := HII.out
   exact hh.keep.size
  exact HKK.out _ _ (keepsFrom_of _ hka (fun i hi => hi.elim)) (hka.mono (fun _ _ h => h.elim)) (HII.out.stay hka) ⟨W.heap.size, rfl, Blk.new W 95 [.iface T2 y2], hbW⟩
 case body =>
  rintro l' pre x a' W ⟨A, c, E1, hh⟩ ⟨p5, rfl, hb5, hp5⟩ hok
  obtain ⟨u0, hu0⟩ : ∃ u0, vs[x.val]? = some u0 := ⟨_, List.getElem?_eq_getElem (by rw [HIT.out.rd.1]; exact x.isLt)⟩
  obtain ⟨x0, hx0⟩ : ∃ x0, j.items[x.val]? = some x0 := ⟨_, List.getElem?_eq_getElem x.isLt⟩
  have hat0 := HIT.out.at_ _ _ _ hu0 hx0
  obtain ⟨T2, y2, hu⟩ := hat0.iface
  have hgd : vs.getD x.val .nilIface = .iface T2 y2 := by rw [List.getD_eq_getElem?_getD, hu0, hu]; rfl
  obtain ⟨ky, hkyy⟩ : ∃ ky, ky = keyAt j x.val := ⟨_, rfl⟩
  obtain ⟨n, hnn⟩ : ∃ n, n = pre.length := ⟨_, rfl⟩
  have hxn : j.items[n]? = some x0 := by rw [hnn, ← hok]; exact hx0
  have hkn : ky = keyAt j n := by rw [hkyy, hok, hnn]
  obtain ⟨k05, hsz5, hbxN, hE5, hN12, hgt5', hNw⟩ := HW.out
  obtain ⟨hs, hkl, hky, ih⟩ := HS.out
  have hW5 := hh.keep.size
  have hju : JAt (fun i => D i ∧ i < N) W (.iface T2 y2) x0 := by
   rw [hu] at hat0
   exact hat0.keep hh.keep fun i hi e => by
    rcases e with e | e
    ·exact HH.out.off i hi.1 e
    ·have := hi.2; omega
  have hroom := withN_room hxn
  have hjr := HH.out.room
  obtain ⟨DX, hDX⟩ : ∃ DX, DX = vb x0.dg := ⟨_, rfl⟩
  have HOF : Hid (Calls Tryz.prog 67 #[fv, .agg #[.iface T2 y2]] W fun e w' => e = .returned (.agg DX.toArray) ∧ ∃ E', Took (TkSt fv) E1 E' W w' (l ++ withN j n ++ x0.tx)) := H_ (by
   have := ih x0 (List.mem_of_getElem? hx0) _ E1 W (l ++ withN j n) _ ⟨by rw [hnn]; exact hh.st, hju, fun i hi e => by
    rcases hh.new i e with e | e
    ·exact HH.out.off i hi.1 e
    ·have := hi.2; omega, by rw [List.length_append]; omega⟩
   unfold DOf at this
   rwa [← hDX] at this)
  have hDXl : DX.length = 32 := by rw [hDX, vb_length]; exact dg_len _
  obtain ⟨DY, hDY⟩ : ∃ DY, DY = vb (rowEl j ky x0) := ⟨_, rfl⟩
  have hDYl : DY.length = 32 := by rw [hDY, vb_length]; exact (rowEl_dig _ _ _).1
  have HDX : Hid (DX.length = 32 ∧ ∀ u ∈ DX, u.oneCell' = true) := H_ ⟨hDXl, by rw [hDX]; exact vb_one _⟩
  have HDY : Hid (DY.length = 32 ∧ ∀ u ∈ DY, u.oneCell' = true) := H_ ⟨hDYl, by rw [hDY]; exact vb_one _⟩
  have HME : Hid (∀ E2 w2, Tkg (TkSt fv) E2 w2 (l ++ withN j n ++ x0.tx) → j.sort = 6 → Calls Tryz.prog 72 #[fv, .string ky, .agg DX.toArray] w2 fun e w' => e = .returned (.agg DY.toArray) ∧ ∃ E', Took (TkSt fv) E2 E' w2 w' (l ++ withN j n ++ x0.tx ++ [memT ky x0.dg])) := H_ fun E2 w2 ht h6 => by
   have h1 := member_any ht (by have := tx_few x0; rw [List.length_append, List.length_append]; omega) ky (hky ky (by
    have h2 := hkl h6
    have hlt := (List.getElem?_eq_some_iff.1 hxn).1
    rw [hkn]
    unfold keyAt
    rw [List.getD_eq_getElem?_getD, List.getElem?_eq_getElem (by omega)]
    exact List.getElem_mem _)) x0.dg (dg_len _) (dgv_bytes _)
   have h2 : memD ky x0.dg = rowEl j ky x0 := by unfold rowEl; rw [if_pos h6]
   rw [h2, ← hDX, ← hDY] at h1
   exact h1
  have b0 := hh.keep.blk HB5.out.1 (by rintro (e | e); have := hE5 _ e; omega; omega)
  have b1 := hh.keep.blk HB5.out.2.1 (by rintro (e | e); have := hE5 _ e; omega; omega)
  have hout : ∀ i, w.heap.size ≤ i → i < w5.heap.size → ¬ E1 i := fun i h1 h2 e => by
   rcases hh.new i e with e | e
   ·have := hE5 _ e; omega
   ·omega
  have HCL : Hid (∀ V, Keeps E1 W V → V.cell? ⟨N, 0, none⟩ = some fv ∧ V.cell? ⟨N1, 0, none⟩ = some (.iface T y) ∧ V.cell? ⟨N2, 0, none⟩ = some (.slice A n c) ∧ V.frozen? ⟨N2, 0, none⟩ = false) := H_ fun V hV => by
   have h3 := hV.blk hh.var hh.plE
   rw [← hnn] at h3
   have h2 := (hV.blk b1 (hout _ (by omega) (by omega))).cell 0
   rw [← hN12.1] at h2
   exact ⟨(hV.blk b0 (hout _ (by omega) (by omega))).cell 0, h2, h3.cell 0, h3.frozen 0⟩
  have HNX : Hid (∀ (wz w12 : World) (Ez : Nat → Prop) (A' : Option Addr) (c' : Nat) (o : Obj), Tkg (TkSt fv) Ez wz (l ++ withN j (n + 1)) → (∀ i, Ez i → E1 i ∨ W.heap.size ≤ i) → Keeps E1 W wz → (wz.alloc o).grownBy w12 (Value.slice A n c).ownBlock → w12.ownsRow 0 23 32 (.slice A' (n + 1) c') (n + 1) (dg ((rowOf j).take (n + 1))) →
    ((Value.slice A' (n + 1) c').ownBlock = (Value.slice A n c).ownBlock ∨ (Value.slice A' (n + 1) c').ownBlock = some (wz.alloc o).heap.size) → (KeepsFrom w5.heap.size W (w12.setCell ⟨N2, 0, none⟩ (.slice A' (n + 1) c')) ∧ Keeps (fun i => E i ∨ i = N2 ∨ w5.heap.size ≤ i) W (w12.setCell ⟨N2, 0, none⟩ (.slice A' (n + 1) c')) ∧ WiI fv E w5 l j N2 (pre ++ [x]) (w12.setCell ⟨N2, 0, none⟩ (.slice A' (n + 1) c')))) := H_ fun wz w12 Ez A' c' o h1 h2 h3 h4 h5 h6 =>
   hh.next (by omega) (by have := HH.out.st.glob.top; omega) hgt5' hok hnn h1 h2 h3 h4 h5 h6
  have HSN : Hid (dg ((rowOf j).take n) ++ DY = dg ((rowOf j).take (n + 1)) ∧ withN j (n + 1) = withN j n ++ txEl j ky x0) := H_ ⟨by rw [row_snoc hs hkl hxn, dg_app, dg_one, hDY, hkn], by rw [withN_snoc hxn, hkn]⟩
  have HTX : Hid (txEl j ky x0 = x0.tx ++ (if j.sort = 6 then [memT ky x0.dg] else [])) := H_ rfl
  have HRW : Hid (∀ V, Keeps E1 W V → V.ownsRow 0 23 32 (.slice A n c) n (dg ((rowOf j).take n))) := H_ fun V hV => by
   have h1 := hV.own hh.row fun g hg => (hh.lo g hg).2
   rwa [← hnn] at h1
  have hnb : n ≤ 1099511627776 := by
   have h1 := (List.getElem?_eq_some_iff.1 hxn).1
   have h2 := len_nodes j.items
   have h3 := JV.nodes_eq j
   omega
  have HXY : Hid (j.sort ≠ 6 → DX = DY) := H_ fun h6 => by rw [hDX, hDY]; unfold rowEl; rw [if_neg h6]
  have HST : Hid (Tkg (TkSt fv) E1 W (l ++ withN j n)) := H_ (by rw [hnn]; exact hh.st)
  have HVR : Hid (∀ V, Keeps E1 W V → Blk V N2 65 [.slice A n c]) := H_ fun V hV => by
   have h3 := hV.blk hh.var hh.plE
   rwa [← hnn] at h3
  have HNO : Hid (¬ (Value.slice A n c).ownBlock = some N2) := H_ (by rw [hnn]; exact own_blk hh.row hh.var (by decide))
  have HRP := H_ (And.intro HH.out.room (withN_room hxn))
  have hc0 := (HCL.out W (Keeps.refl _ _)).1
  have hc5 := hb5.cell 0
  rw [hgd, ← hkyy]
  rw [hgd] at hc5
  have HPL : Hid ((vb x0.dg).length = 32) := H_ (by rw [vb_length]; exact dg_len _)
  have HFO : Hid (∀ cs : Array Value, cs.size = 32 → List.foldl (fun (cs : Array Value) (x : Value × Nat) => cs.setIfInBounds x.snd x.fst) cs DY.zipIdx = DY.toArray) := H_ fun cs h => fold_zip0 DY cs (by rw [HDY.out.1]; exact h)
  have hvl : DY.length = 32 := HDY.out.1
  clear hu0 hx0 hat0 hu hgd hkyy hxn hkn k05 hsz5 hbxN hE5 hN12 hNw hs hkl hky ih hW5 hju hroom hjr hDX hDXl hDY hDYl b0 b1 hout hok hnn hh hb5 hp5
  refine wpIn_block ?_
  by_cases h6 : j.sort = 6
  ·have hs6 : (j.sort == 6) = true := by rw [h6]; rfl
   have tk0 : True := trivial
   gi_wp2_with (first
    | ((try refine ⟨trivial, ?_⟩); (try refine ⟨hdd _, ?_⟩); gi_at_call 67; refine (callsIn_wide.2 HOF.out).mono ?_; rintro e w6 ⟨rfl, E2, hT6⟩; have HT6 := H_ hT6; have HZ6 := H_ (Blk.new w6 23 (List.replicate 32 (Value.int .u8 0))); clear hT6)
    | (have _t := tk0; clear tk0; (with_reducible show wpListIn _ _ _ _ _ (⟨none, Op.store 23 _ _, _, _, _, _⟩ :: _) _ _); refine wpListIn_store_whole rfl 23 _ _ rfl DX rfl rfl HZ6.out (by rw [HDX.out.1]; simp) (infoDg DX HDX.out.1) HDX.out.2 ?_; refine gen_worldIn (fun V => Blk V w6.heap.size 23 DX ∧ Keeps (fun _ => False) w6 V) ⟨HZ6.out.setRow DX, ((Keeps.refl (fun _ => False) w6).alloc _).setRow (.inr (Nat.le_refl _)) _⟩ ?_; rintro w7 ⟨hb7, hk7⟩; have HB7 := H_ hb7; have HK7 := H_ hk7; have c71 := (HCL.out w7 (HT6.out.keep.trans hk7 fun _ _ h => h.elim)).2.1; clear hb7 hk7)
    | ((try refine ⟨trivial, ?_⟩); (try refine ⟨hdd _, ?_⟩); gi_at_call 47; refine (callsIn_wide.2 (HSO.out _)).mono ?_; rintro e w9 ⟨rfl, hk9⟩; have HB9 := H_ (hk9.blk HB7.out fun h => h); have HK9 := H_ (HK7.out.trans hk9 fun _ _ h => h); have c90 := (HCL.out w9 (HT6.out.keep.trans HK9.out fun _ _ h => h.elim)).1; have c92 := (HCL.out w9 (HT6.out.keep.trans HK9.out fun _ _ h => h.elim)).2.2.1; have f92 := (HCL.out w9 (HT6.out.keep.trans HK9.out fun _ _ h => h.elim)).2.2.2; clear hk9)
    | ((with_reducible show wpListIn _ _ _ _ _ (⟨some 21, Op.load 23 _, _, _, _, _⟩ :: _) _ _); refine wpListIn_load_whole rfl 23 _ rfl _ rfl HB9.out Tryz.underlying23 rfl (infoDg DX HDX.out.1) ?_)
    | ((try refine ⟨trivial, ?_⟩); (try refine ⟨hdd _, ?_⟩); gi_at_call 72; refine (callsIn_wide.2 (HME.out E2 w9 ((HST.out.next HT6.out).stay (tkLasts _) HK9.out) h6)).mono ?_; rintro e w10 ⟨rfl, E3, hT10⟩; have HT10 := H_ hT10; have HN8 := H_ (fun he => Nat.lt_irrefl _ (HT6.out.lt w6.heap.size he) : ¬ E2 w6.heap.size); have HB10 := H_ (hT10.keep.blk HB9.out HN8.out); clear hT10)
    | ((with_reducible show wpListIn _ _ _ _ _ (⟨none, Op.store 23 _ _, _, _, _, _⟩ :: _) _ _); refine wpListIn_store_whole rfl 23 _ _ rfl DY rfl rfl HB10.out (by rw [HDX.out.1, HDY.out.1]) (infoDg DY HDY.out.1) HDY.out.2 ?_; refine gen_worldIn (fun V => Blk V w6.heap.size 23 DY ∧ Keeps (fun i => i = w6.heap.size) w10 V) ⟨HB10.out.setRow DY, setRow_keep _ _ _⟩ ?_; rintro w11 ⟨hb11, hk11⟩; have HB11 := H_ hb11; have HK11 := H_ (wi_keep HT6.out HK9.out HT10.out hk11); have HT11 := H_ (wi_tkg HST.out HT6.out HK9.out HT10.out hk11 HB9.out.lt); have c112 := (HCL.out w11 HK11.out).2.2.1; have f112 := (HCL.out w11 HK11.out).2.2.2; clear hb11 hk11)
    | ((with_reducible show wpListIn _ _ _ _ _ (⟨some 24, Op.load 23 _, _, _, _, _⟩ :: _) _ _); refine wpListIn_load_whole rfl 23 _ rfl _ rfl HB11.out Tryz.underlying23 rfl (infoDg DY HDY.out.1) ?_)
    | ((with_reducible show wpListIn _ _ _ _ _ (⟨some 26, Op.call ⟨Callee.builtin Builtin.append, _, _⟩, _, _, _, _⟩ :: _) _ _); rw [HFO.out _ rfl]; refine wpListIn_append_S _ rfl (.tmp 23) (.tmp 25) 65 rfl 23 (.agg (vb (List.replicate 32 0)).toArray) 32 32 Tryz.underlying65 infoDD rfl (by decide) A n c _ rfl ((((Keeps.refl (fun _ => False) _).alloc _).own (HRW.out _ HK11.out) (fun _ _ h => h))) ⟨w11.heap.size, 0, none⟩ 1 1 DY rfl (by rw [HDY.out.1]) (fun q u hu => by rw [add_at, Nat.zero_add]; exact ((Blk.new w11 23 DY).cell q).trans hu) HDY.out.2 (by simp only [maxLen]; omega) (by omega) ?_; intro A13 c13 w13 ho13 hg13 hb13; rw [HSN.out.1] at ho13; have HO13 := H_ (And.intro ho13 (And.intro hg13 hb13)); have c132 := ((Keeps.of_grown hg13).blk (((Keeps.refl (fun _ => False) w11).alloc _).blk (HVR.out w11 HK11.out) fun h => h) HNO.out).cell 0; have f132 := ((Keeps.of_grown hg13).blk (((Keeps.refl (fun _ => False) w11).alloc _).blk (HVR.out w11 HK11.out) fun h => h) HNO.out).frozen 0; clear ho13 hg13 hb13))
   refine HNX.out w11 w13 E3 A13 c13 _ ?_ HT11.out.2 HK11.out HO13.out.2.1 HO13.out.1 HO13.out.2.2
   have e : l ++ withN j (n + 1) = l ++ withN j n ++ x0.tx ++ [memT ky x0.dg] := by rw [HSN.out.2, HTX.out, if_pos h6]; simp
   rw [e]
   exact HT11.out.1
  ·have hs6 : (j.sort == 6) = false := by simpa using h6
   have tk0 : True := trivial
   have HXYe := (HXY.out h6).symm
   subst HXYe
   gi_wp2_with (first
    | ((try refine ⟨trivial, ?_⟩); (try refine ⟨hdd _, ?_⟩); gi_at_call 67; refine (callsIn_wide.2 HOF.out).mono ?_; rintro e w6 ⟨rfl, E2, hT6⟩; have HT6 := H_ hT6; have HZ6 := H_ (Blk.new w6 23 (List.replicate 32 (Value.int .u8 0))); clear hT6)
    | ((with_reducible show wpListIn _ _ _ _ _ (⟨none, Op.store 23 _ _, _, _, _, _⟩ :: _) _ _); refine wpListIn_store_whole rfl 23 _ _ rfl DY rfl rfl HZ6.out (by rw [HDY.out.1]; simp) (infoDg DY HDY.out.1) HDY.out.2 ?_; refine gen_worldIn (fun V => Blk V w6.heap.size 23 DY ∧ Keeps (fun _ => False) w6 V) ⟨HZ6.out.setRow DY, ((Keeps.refl (fun _ => False) w6).alloc _).setRow (.inr (Nat.le_refl _)) _⟩ ?_; rintro w7 ⟨hb7, hk7⟩; have HB7 := H_ hb7; have HK7 := H_ hk7; have c71 := (HCL.out w7 (HT6.out.keep.trans hk7 fun _ _ h => h.elim)).2.1; clear hb7 hk7)
    | ((try refine ⟨trivial, ?_⟩); (try refine ⟨hdd _, ?_⟩); gi_at_call 47; refine (callsIn_wide.2 (HSO.out _)).mono ?_; rintro e w9 ⟨rfl, hk9⟩; have HB9 := H_ (hk9.blk HB7.out fun h => h); have HK9 := H_ (HK7.out.trans hk9 fun _ _ h => h); have c90 := (HCL.out w9 (HT6.out.keep.trans HK9.out fun _ _ h => h.elim)).1; have c92 := (HCL.out w9 (HT6.out.keep.trans HK9.out fun _ _ h => h.elim)).2.2.1; have f92 := (HCL.out w9 (HT6.out.keep.trans HK9.out fun _ _ h => h.elim)).2.2.2; clear hk9)
    | ((with_reducible show wpListIn _ _ _ _ _ (⟨some 24, Op.load 23 _, _, _, _, _⟩ :: _) _ _); refine wpListIn_load_whole rfl 23 _ rfl _ rfl HB9.out Tryz.underlying23 rfl (infoDg DY HDY.out.1) ?_)
    | ((with_reducible show wpListIn _ _ _ _ _ (⟨some 26, Op.call ⟨Callee.builtin Builtin.append, _, _⟩, _, _, _, _⟩ :: _) _ _); rw [HFO.out _ rfl]; refine wpListIn_append_S _ rfl (.tmp 23) (.tmp 25) 65 rfl 23 (.agg (vb (List.replicate 32 0)).toArray) 32 32 Tryz.underlying65 infoDD rfl (by decide) A n c _ rfl ((((Keeps.refl (fun _ => False) _).alloc _).own (HRW.out _ (HT6.out.keep.trans HK9.out fun _ _ h => h.elim)) (fun _ _ h => h))) ⟨w9.heap.size, 0, none⟩ 1 1 DY rfl (by rw [HDY.out.1]) (fun q u hu => by rw [add_at, Nat.zero_add]; exact ((Blk.new w9 23 DY).cell q).trans hu) HDY.out.2 (by simp only [maxLen]; omega) (by omega) ?_; intro A13 c13 w13 ho13 hg13 hb13; rw [HSN.out.1] at ho13; have HO13 := H_ (And.intro ho13 (And.intro hg13 hb13)); have c132 := ((Keeps.of_grown hg13).blk (((Keeps.refl (fun _ => False) w9).alloc _).blk (HVR.out w9 (HT6.out.keep.trans HK9.out fun _ _ h => h.elim)) fun h => h) HNO.out).cell 0; have f132 := ((Keeps.of_grown hg13).blk (((Keeps.refl (fun _ => False) w9).alloc _).blk (HVR.out w9 (HT6.out.keep.trans HK9.out fun _ _ h => h.elim)) fun h => h) HNO.out).frozen 0; clear ho13 hg13 hb13))
   refine HNX.out w9 w13 E2 A13 c13 _ ?_ HT6.out.new (HT6.out.keep.trans HK9.out fun _ _ h => h.elim) HO13.out.2.1 HO13.out.1 HO13.out.2.2
   have e : l ++ withN j (n + 1) = l ++ withN j n ++ x0.tx := by rw [HSN.out.2, HTX.out, if_neg h6]; simp
   rw [e]
   exact (HST.out.next HT6.out).stay (tkLasts _) HK9.out
 case stop =>
  rintro D' c2 pre W _ _ h _
  exact h.elim
 case done =>
  rintro D' xs W hD' hxs ⟨A, c, E1, hh⟩ hK
  have cv := hh.var.cell 0
  have HH2 := H_ hh
  have HXS := H_ hxs
  have HKD := H_ (And.intro hD' hK)
  clear hh hxs hK hD'
  go_wp2
  refine ⟨by simp, .inl ⟨_, _, rfl, run_takeDeferred HKD.out.2, ?_⟩⟩
  refine ⟨_, results_tmp rfl _ _ _, ?_⟩
  have kp : CK w5.heap.size W (W.putObj D' (.deferred none)) := CK.putObj HKD.out.2 rfl HKD.out.1 _
  obtain ⟨k05, hsz5, hbxN, hE5, hN12, hgt5, hNw⟩ := HW.out
  have hst := HH2.out.st.ck kp hgt5
  have hkeep := kp.keeps HH2.out.keep (Nat.le_refl _)
  have hrow := kp.own HH2.out.row
  have hlo := HH2.out.lo
  have hnew := HH2.out.new
  have hlen : xs.length = j.items.length := by
   have := congrArg List.length HXS.out
   rw [List.length_map, List.length_range] at this
   exact this
  rw [hlen] at hst hrow hlo
  obtain ⟨hs, hkl, _, _⟩ := HS.out
  have hrl := row_len hs hkl
  have htk : (rowOf j).take j.items.length = rowOf j := by rw [← hrl, List.take_length]
  rw [htk] at hrow
  have hA : 0 < j.items.length → ∃ g, A = some ⟨g, 0, none⟩ ∧ w5.heap.size ≤ g ∧ ¬ E1 g := fun h0 => by
   rcases hrow.2 with ⟨_, hz⟩ | ⟨g, cap, cur, hv, _⟩
   ·omega
   ·injection hv with hv _ _
    exact ⟨g, hv, hlo g (by rw [hv]; rfl)⟩
  refine ⟨A, c, E1, (by show Ending.returned (Value.slice A xs.length c) = _; rw [hlen]), ⟨hst.st, fun i hi => (hnew i hi).imp id fun e => by omega, hst.cel, (k05.mono fun _ _ h => h.elim).trans hkeep fun i hi e => e.elim id fun e => by omega⟩, RdD.of_own hrow row_digs hrl, ?_, ?_, ?_⟩
  ·intro h0 a e he
   obtain ⟨g, hg, _, h3⟩ := hA h0
   rw [hg] at e
   injection e with e
   subst e
   exact h3 he
  ·rcases Nat.eq_zero_or_pos j.items.length with h0 | h0
   ·omega
   ·obtain ⟨g, hg, _⟩ := hA h0
    rw [hg] at hrow
    exact own_cap hrow
  ·intro h0 a e
   obtain ⟨g, hg, h2, _⟩ := hA h0
   rw [hg] at e
   injection e with e
   subst e
   show w.heap.size ≤ g
   omega
end Go.Proofs.YtplleficmkfniaaGreatDoor
namespace Go.Proofs.YtplleficmkfniaaGreatDoor
open Go Go.RowKit Go.Aff Go.Json
theorem len_any {D : Nat → Prop} {w : World} {v : Value} {j : JV} (h : JAt D w v j) (W : World) (hW : Keeps (fun _ => False) w W) : Calls Tryz.prog 81 #[.agg #[v]] W fun e w' => e = .returned (.int .i64 j.items.length) ∧ Keeps (fun _ => False) W w' := by
 obtain ⟨A, c, vs, hi, hc⟩ := items_inv h
 obtain ⟨T, x, rfl⟩ := h.iface
 obtain ⟨n, hn⟩ : ∃ n, n = j.items.length := ⟨_, rfl⟩
 rw [← hn] at hc ⊢
 have c0 := (Blk.new W 95 [.iface T x]).cell 0
 have HK := H_ ((Keeps.refl (fun _ => False) W).alloc (.cells #[.iface T x] 95))
 have HC := H_ (hc (W.alloc (.cells #[.iface T x] 95)) (hW.alloc _))
 clear hc hi h hn
 go_enter Tryz.func81, Tryz.ntmps81
 go_wp2_with (go_at_call 84; refine HC.out.mono ?_; rintro e w2 ⟨rfl, hk2⟩; have HK2 := H_ hk2; clear hk2)
 go_ret
 exact ⟨rfl, HK.out.trans HK2.out (fun _ _ h => h)⟩
end Go.Proofs.YtplleficmkfniaaGreatDoor
namespace Go.Proofs.YtplleficmkfniaaGreatDoor
open Go Go.RowKit Go.Aff Go.Json Go.Dig Go.Book
attribute [local go_sem] Oper.semAt_some
theorem of_off {S : (Nat → Prop) → World → List (List Int) → Prop} {E E3 : Nat → Prop} {w1 w2 w3 : World} {N : Nat} {l3 : List (List Int)} (hN : ¬ E N ∧ ¬ E (N + 1)) (h2 : N + 1 < w1.heap.size) (k : Keeps (fun _ => False) w1 w2) (ht : Took S E E3 w2 w3 l3) : ¬ E3 N ∧ ¬ E3 (N + 1) := by
 have hs := k.size
 exact ⟨fun e => (ht.new _ e).elim hN.1 fun h => by omega, fun e => (ht.new _ e).elim hN.2 fun h => by omega⟩
theorem blk_rngD {w : World} {p : Nat} {ty : TypeId} {cs : List Value} (h : Blk w p ty cs) : w.rangeAt p 0 cs := fun j v hv => by rw [Nat.zero_add, h.cell]; exact hv
theorem of_list {fv : Value} {D E : Nat → Prop} {w : World} {l : List (List Int)} {v : Value} {j : JV} (h : WiIn fv D E w l v j) (hok : JOk j) (hs : j.sort = 5) (hn : j.nodes ≤ 1048576) (hky : ∀ k ∈ j.keys, k.size ≤ 4194304) (ih : OfAll fv j) :
  Calls Tryz.prog 67 #[fv, .agg #[v]] w (DOf fv E w l j) := by
 have hkl : j.sort = 6 → j.keys.length = j.items.length := hok.form.2.1
 have hs56 : j.sort = 5 ∨ j.sort = 6 := by omega
 obtain ⟨T, y, hv⟩ := h.at_.iface
 subst hv
 unfold DOf
 obtain ⟨n, hnn⟩ : ∃ n, n = j.items.length := ⟨_, rfl⟩
 obtain ⟨DR, hDR⟩ : ∃ DR, DR = rowD (rowOf j) := ⟨_, rfl⟩
 have hDRl : DR.length = 32 ∧ IsBytes DR := by rw [hDR]; exact ⟨rowD_len _, rowD_bytes _⟩
 obtain ⟨DV, hDV⟩ : ∃ DV, DV = vb j.dg := ⟨_, rfl⟩
 have HD1 : Hid (∀ u ∈ DV, u.oneCell' = true) := H_ (by rw [hDV]; exact vb_one _)
 have HDL : Hid (DV.length = 32) := H_ (by rw [hDV, vb_length]; exact dg_len _)
 have HIN : Hid ((Tryz.prog.info? 23).map (·.size) = some DV.length) := H_ (infoDg DV HDL.out)
 obtain ⟨RV, hRV⟩ : ∃ RV, RV = vb DR := ⟨_, rfl⟩
 have HDR : Hid (RV.length = 32 ∧ ∀ u ∈ RV, u.oneCell' = true) := H_ ⟨by rw [hRV, vb_length]; exact hDRl.1, by rw [hRV]; exact vb_one _⟩
 have htx := tx_with hs56 hkl
 have hdg := dg_with hs56
 rw [← hnn, ← hDR, hs] at htx hdg
 have hnodes := withN_all j
 have hroom := h.room
 have hnl : n ≤ j.nodes := by have h1 := len_nodes j.items; have h2 := JV.nodes_eq j; omega
 rw [← hnn] at hnodes
 obtain ⟨LL, hLL⟩ : ∃ LL, LL = l ++ j.tx := ⟨_, rfl⟩
 rw [← hDV, ← hLL]
 obtain ⟨N, hN⟩ : ∃ N, N = w.heap.size := ⟨_, rfl⟩
 have hal := allTx_len (rowOf j)
 rw [row_len hs56 hkl, ← hnn] at hal
 have HVA : Hid (∀ W, Keeps (fun _ => False) w W → Calls Tryz.prog 137 #[.agg #[.iface T y]] W fun e w' => ∃ A m c, e = .returned (.iface 317 (.slice A m c)) ∧ Keeps (fun _ => False) W w') := H_ fun W hW =>
  (val_any j hok hn D W (.iface T y) (h.at_.stay hW)).mono fun e w' ⟨v', he, hv', hk⟩ => by
   cases hv' with
   | list l' A n' c => exact ⟨A, n', c, he, hk⟩
   | null | flag | num | text | obj => simp [JV.sort] at hs
 have HWI : Hid (∀ W, Keeps (fun _ => False) w W → Calls Tryz.prog 94 #[fv, .agg #[.iface T y]] W fun e w' => ∃ A c E', e = .returned (.slice A n c) ∧ Hid (Took (TkSt fv) E E' W w' (l ++ withN j n) ∧ RdD w' A n (rowOf j) ∧ Out E' A n ∧ n ≤ c)) := H_ fun W hW => by
  refine (dwithin_any (D := D) (E := E) (l := l) ⟨h.st.stay (tkLasts _) hW, h.at_.stay hW, h.off, h.room⟩ hs56 hkl hky ih).mono ?_
  rintro e w' ⟨A, c, E', he, h1, h2, h3, h4, _⟩
  rw [← hnn] at he h1 h2 h3 h4
  exact ⟨A, c, E', he, H_ ⟨h1, h2, h3, h4⟩⟩
 have HRO : Hid (∀ E1 w1 A c, Tkg (TkSt fv) E1 w1 (l ++ withN j n) → RdD w1 A n (rowOf j) → Out E1 A n → n ≤ c → Calls Tryz.prog 70 #[fv, .slice A n c] w1 fun e w' => e = .returned (.agg RV.toArray) ∧ ∃ E', Took (TkSt fv) E1 E' w1 w' (l ++ withN j n ++ allTx (rowOf j))) := H_ fun E1 w1 A c h1 h2 h3 h4 => by
  have h5 := row_any h1 A n c (rowOf j) h2 h3 h4 (by omega) (by rw [List.length_append]; omega)
  rw [← hDR, ← hRV] at h5
  exact h5
 have HSO : Hid (∀ W, Calls Tryz.prog 47 #[.agg #[.iface T y]] W fun e w' => e = .returned (.int .i64 5) ∧ Keeps (fun _ => False) W w') := H_ fun W => by have := refsort_any h.at_ W; rwa [hs] at this
 have HLE : Hid (∀ W, Keeps (fun _ => False) w W → Calls Tryz.prog 81 #[.agg #[.iface T y]] W fun e w' => e = .returned (.int .i64 n) ∧ Keeps (fun _ => False) W w') := H_ fun W hW => by have := len_any h.at_ W hW; rwa [← hnn] at this
 have HLJ : Hid (∀ V, JAt D V (.iface T y) j → ∀ W, Keeps (fun _ => False) V W → Calls Tryz.prog 81 #[.agg #[.iface T y]] W fun e w' => e = .returned (.int .i64 n) ∧ Keeps (fun _ => False) W w') := H_ fun V hV W hW => by have := len_any hV W hW; rwa [← hnn] at this
 have HGR : Hid (∀ E1 w1, Tkg (TkSt fv) E1 w1 (l ++ withN j n ++ allTx (rowOf j)) → Calls Tryz.prog 73 #[fv, .int .i64 5, .int .i64 n, .agg RV.toArray] w1 fun e w' => e = .returned (.agg DV.toArray) ∧ ∃ E', Took (TkSt fv) E1 E' w1 w' LL) := H_ fun E1 w1 h1 => by
  have h5 := group_any h1 (by rw [List.length_append, List.length_append]; omega) 5 n (by omega) DR hDRl.1 hDRl.2
  rw [← hdg, ← hRV, ← hDV] at h5
  rw [hLL, htx]
  simpa [List.append_assoc] using h5
 have HH := H_ (And.intro h.st (And.intro h.at_ h.off))
 have HW0 : Hid (Keeps (fun _ => False) w ((w.alloc (.cells #[.iface T y] 95)).alloc (.cells (List.replicate 32 (Value.int .u8 0)).toArray 23)) ∧ Blk ((w.alloc (.cells #[.iface T y] 95)).alloc (.cells (List.replicate 32 (Value.int .u8 0)).toArray 23)) N 95 [.iface T y] ∧ Blk ((w.alloc (.cells #[.iface T y] 95)).alloc (.cells (List.replicate 32 (Value.int .u8 0)).toArray 23)) (N + 1) 23 (List.replicate 32 (Value.int .u8 0))) := H_ ⟨((Keeps.refl _ w).alloc _).alloc _, by rw [hN]; exact (Blk.new _ _ _).alloc _, by
  have h := Blk.new (w.alloc (.cells #[.iface T y] 95)) 23 (List.replicate 32 (Value.int .u8 0))
  rwa [World.size_alloc, ← hN] at h⟩
 have HNN := H_ hN
 have HNE : Hid (¬ E N ∧ ¬ E (N + 1)) := H_ ⟨fun he => by have := h.st.lt _ he; omega, fun he => by have := h.st.lt _ he; omega⟩
 clear h hok hs hn hky ih hkl hs56 hnn hDR hDRl hDV hRV htx hdg hnodes hroom hnl hLL hN hal
 have a1 := va_list_null
 have a2 := va_list_flag
 have a3 := va_list_num
 have a4 := va_list_text
 go_enter Tryz.func67, Tryz.ntmps67
 go_upto_region 1 with fail
 refine gen_codeF (fun W => Keeps (fun _ => False) w W ∧ Blk W N 95 [.iface T y] ∧ Blk W (N + 1) 23 (List.replicate 32 (Value.int .u8 0))) HW0.out ?_
 rintro w1 ⟨k1, b1, z1⟩
 have hNN := HNN.out
 rw [← hNN]
 clear hNN
 have c0 := b1.cell 0
 have HK1 := H_ k1
 have HZ1 := H_ (And.intro b1 z1)
 clear k1 b1 z1
 go_upto_region 16 with (go_at_call 137; refine (HVA.out _ HK1.out).mono ?_; rintro e w2 ⟨A2, m2, c2, rfl, hk2⟩; have HK2 := H_ (HK1.out.trans hk2 fun _ _ h => h); have HK2b := H_ hk2; have HZ2 := H_ (And.intro (hk2.blk HZ1.out.1 fun h => h) (hk2.blk HZ1.out.2 fun h => h)); have c02 := HZ2.out.1.cell 0; clear hk2)
 go_upto_region 17 with (first
  | (go_at_call 94; refine (HWI.out _ HK2.out).mono ?_; rintro e w3 ⟨A3, c3, E3, rfl, H3⟩; have HT3 := H_ (HH.out.1.stay (tkLasts _) HK2.out |>.next H3.out.1); have HB3 := H_ (And.intro (H3.out.1.keep.blk HZ2.out.1 HNE.out.1) (H3.out.1.keep.blk HZ2.out.2 HNE.out.2)))
  | (go_at_call 70; refine (HRO.out E3 _ A3 c3 HT3.out H3.out.2.1 H3.out.2.2.1 H3.out.2.2.2).mono ?_; rintro e w4 ⟨rfl, E4, hT4⟩; have HT4 := H_ hT4; have HG4 := H_ (HT3.out.next hT4); have HN3 := H_ (of_off HNE.out HZ1.out.2.lt HK2b.out H3.out.1); have HB4 := H_ (And.intro (hT4.keep.blk HB3.out.1 HN3.out.1) (hT4.keep.blk HB3.out.2 HN3.out.2)); have HZ4 := H_ (Blk.new w4 23 (List.replicate 32 (Value.int .u8 0))); clear hT4)
  | ((with_reducible show wpList _ _ _ (⟨none, Op.store 23 _ _, _, _, _, _⟩ :: _) _ _); refine wpList_store_whole rfl 23 _ _ rfl RV rfl rfl HZ4.out (by rw [HDR.out.1]; simp) (infoDg RV HDR.out.1) HDR.out.2 ?_))
 obtain ⟨p, hp⟩ : ∃ p, p = w4.heap.size := ⟨_, rfl⟩
 have HW5 : Hid (Keeps (fun _ => False) w4 ((w4.alloc (.cells (List.replicate 32 (Value.int .u8 0)).toArray 23)).setRow w4.heap.size RV.toArray) ∧ Blk ((w4.alloc (.cells (List.replicate 32 (Value.int .u8 0)).toArray 23)).setRow w4.heap.size RV.toArray) p 23 RV) := H_ ⟨((Keeps.refl (fun _ => False) w4).alloc _).setRow (.inr (Nat.le_refl _)) _, by rw [hp]; exact HZ4.out.setRow RV⟩
 rw [← hp] at HW5 ⊢
 refine gen_codeF (fun W => Keeps (fun _ => False) w4 W ∧ Blk W p 23 RV) HW5.out ?_
 rintro w5 ⟨k5, b5⟩
 have HK5 := H_ k5
 have HB5 := H_ (And.intro (k5.blk HB4.out.1 fun h => h) (And.intro (k5.blk HB4.out.2 fun h => h) b5))
 have HG5 := H_ (HG4.out.stay (tkLasts _) k5)
 have HJ5 : Hid (JAt D w5 (.iface T y) j) := H_ (by
  have hlt : ∀ i, (D i ∧ i < w2.heap.size) → ¬ E3 i := fun i hi e => (H3.out.1.new i e).elim (HH.out.2.2 i hi.1) fun h => by have := hi.2; omega
  exact ((((HH.out.2.1.stay HK2.out).mono (C := fun i => D i ∧ i < w2.heap.size) fun i h1 h2 => ⟨h1, h2⟩).keep H3.out.1.keep fun i hi => HH.out.2.2 i hi.1).keep HT4.out.keep hlt |>.stay k5).mono fun i hi _ => hi.1)
 have HNE4 : Hid (¬ E4 (N + 1)) := H_ fun e => (HT4.out.new _ e).elim HN3.out.2 fun h => by
  have := HB3.out.2.lt
  omega
 clear k5 b5 HW5 hp
 refine wp_region_tail (S := (fun V => Keeps (fun _ => False) w5 V)) 6 (by kernel_rfl) (Keeps.refl _ _).drew (fun h_ => ?_)
 refine tJ 0 47 ?_
 try simp only [pu]
 refine tT [1, 2] (i := 1) (oi := ⟨some 48, _, _, _, _, _⟩) (v := ?_) rfl (Or.inl ⟨by rfl, ?_⟩) h_ ?_
 rotate_left
 ·intro w' hSw
  have cv := (hSw.blk HB5.out.1 fun h => h).cell 0
  go_simp
  first | done | rfl
 try simp only [pu]
 refine tT [3, 4] (i := 3) (oi := ⟨some 50, _, _, _, _, _⟩) (v := ?_) rfl (Or.inl ⟨by rfl, ?_⟩) h_ ?_
 rotate_left
 ·intro w' hSw
  have cv := (hSw.blk HB5.out.1 fun h => h).cell 0
  go_simp
  first | done | rfl
 try simp only [pu]
 refine tT [5] (i := 5) (oi := ⟨some 52, _, _, _, _, _⟩) (v := _) rfl (yieldsIf_load_mid (by rfl) _ _ rfl _ _ rfl RV _ (fun w' h => blk_rngD (h.blk HB5.out.2.2 fun h => h)) Tryz.underlying23 rfl (infoDg RV HDR.out.1)) h_ ?_
 try simp only [pu]
 refine wpAnyT_step (i := 2) (o := ⟨some 49, _, _, _, _, _⟩) (by kernel_rfl) rfl (fun K hK => ?_)
 go_simp
 refine (HSO.out _).mono ?_
 rintro e w6 ⟨rfl, hk6⟩
 have hS6 := h_.trans hk6 (fun _ _ h => h)
 refine hK.out _ _ hS6 (fun h_ => ?_)
 clear hK K
 try simp only [pu]
 refine wpAnyT_step (i := 4) (o := ⟨some 51, _, _, _, _, _⟩) (by kernel_rfl) rfl (fun K hK => ?_)
 go_simp
 refine (HLJ.out w5 HJ5.out _ h_).mono ?_
 rintro e w8 ⟨rfl, hk8⟩
 have hS8 := h_.trans hk8 (fun _ _ h => h)
 refine hK.out _ _ hS8 (fun h_ => ?_)
 clear hK K
 try simp only [pu]
 refine wpAnyT_tail (i := 6) (o := ⟨some 53, _, _, _, _, _⟩) (by kernel_rfl) (by kernel_rfl) rfl (fun K hK => ?_)
 go_simp
 refine (HGR.out E4 _ (HG5.out.stay (tkLasts _) hS8)).mono ?_
 rintro e w9 ⟨rfl, E9, hT9⟩
 have HT9 := H_ hT9; have HZ9 := H_ (hT9.keep.blk (hS8.blk HB5.out.2.1 fun h => h) HNE4.out)
 refine hK.out _ _ ?_
 clear hK K
 try simp only [pu]
 refine wpAnyT_tail (i := 7) (o := ⟨none, _, _, _, _, _⟩) (by kernel_rfl) (by kernel_rfl) rfl (fun K hK => ?_)
 refine step_store_whole rfl 23 (.tmp 4) (.tmp 53) rfl DV rfl rfl HZ9.out (by rw [HDL.out]; simp) HIN.out HD1.out ?_
 refine hK.out _ _ ?_
 clear hK K
 try simp only [pu]
 refine wpAnyT_done (by kernel_rfl) ?_
 go_wp2
 refine bodyPost_ret (results_blk rfl _ _ rfl (HZ9.out.setRow DV) Tryz.underlying23 rfl HIN.out) rfl ⟨rfl, E9, ?_⟩
 have ht : Took (TkSt fv) E E9 w w9 LL := Took.begin HK2.out (((H3.out.1.trans HT4.out).stay (tkLasts _) (HK5.out.trans hS8 fun _ _ h => h)).trans HT9.out)
 refine ht.more (tkLasts _) (setRow_keep _ _ _) fun i hi => ?_
 subst hi
 refine ⟨by have := HNN.out; omega, fun he => ?_⟩
 rcases HT9.out.new _ he with h1 | h1
 ·exact HNE4.out h1
 ·have h2 := (hS8.blk HB5.out.2.1 fun h => h).lt
  omega
theorem of_obj {fv : Value} {D E : Nat → Prop} {w : World} {l : List (List Int)} {v : Value} {j : JV} (h : WiIn fv D E w l v j) (hok : JOk j) (hs : j.sort = 6) (hn : j.nodes ≤ 1048576) (hky : ∀ k ∈ j.keys, k.size ≤ 4194304) (ih : OfAll fv j) :
  Calls Tryz.prog 67 #[fv, .agg #[v]] w (DOf fv E w l j) := by
 have hkl : j.sort = 6 → j.keys.length = j.items.length := hok.form.2.1
 have hs56 : j.sort = 5 ∨ j.sort = 6 := by omega
 obtain ⟨T, y, hv⟩ := h.at_.iface
 subst hv
 unfold DOf
 obtain ⟨n, hnn⟩ : ∃ n, n = j.items.length := ⟨_, rfl⟩
 obtain ⟨DR, hDR⟩ : ∃ DR, DR = rowD (rowOf j) := ⟨_, rfl⟩
 have hDRl : DR.length = 32 ∧ IsBytes DR := by rw [hDR]; exact ⟨rowD_len _, rowD_bytes _⟩
 obtain ⟨DV, hDV⟩ : ∃ DV, DV = vb j.dg := ⟨_, rfl⟩
 have HD1 : Hid (∀ u ∈ DV, u.oneCell' = true) := H_ (by rw [hDV]; exact vb_one _)
 have HDL : Hid (DV.length = 32) := H_ (by rw [hDV, vb_length]; exact dg_len _)
 have HIN : Hid ((Tryz.prog.info? 23).map (·.size) = some DV.length) := H_ (infoDg DV HDL.out)
 obtain ⟨RV, hRV⟩ : ∃ RV, RV = vb DR := ⟨_, rfl⟩
 have HDR : Hid (RV.length = 32 ∧ ∀ u ∈ RV, u.oneCell' = true) := H_ ⟨by rw [hRV, vb_length]; exact hDRl.1, by rw [hRV]; exact vb_one _⟩
 have htx := tx_with hs56 hkl
 have hdg := dg_with hs56
 rw [← hnn, ← hDR, hs] at htx hdg
 have hnodes := withN_all j
 have hroom := h.room
 have hnl : n ≤ j.nodes := by have h1 := len_nodes j.items; have h2 := JV.nodes_eq j; omega
 rw [← hnn] at hnodes
 obtain ⟨LL, hLL⟩ : ∃ LL, LL = l ++ j.tx := ⟨_, rfl⟩
 rw [← hDV, ← hLL]
 obtain ⟨N, hN⟩ : ∃ N, N = w.heap.size := ⟨_, rfl⟩
 have hal := allTx_len (rowOf j)
 rw [row_len hs56 hkl, ← hnn] at hal
 have HVA : Hid (∀ W, Keeps (fun _ => False) w W → Calls Tryz.prog 137 #[.agg #[.iface T y]] W fun e w' => ∃ A m c, e = .returned (.iface 319 (.slice A m c)) ∧ Keeps (fun _ => False) W w') := H_ fun W hW =>
  (val_any j hok hn D W (.iface T y) (h.at_.stay hW)).mono fun e w' ⟨v', he, hv', hk⟩ => by
   cases hv' with
   | obj ks l' A n' c => exact ⟨A, n', c, he, hk⟩
   | null | flag | num | text | list => simp [JV.sort] at hs
 have HWI : Hid (∀ W, Keeps (fun _ => False) w W → Calls Tryz.prog 94 #[fv, .agg #[.iface T y]] W fun e w' => ∃ A c E', e = .returned (.slice A n c) ∧ Hid (Took (TkSt fv) E E' W w' (l ++ withN j n) ∧ RdD w' A n (rowOf j) ∧ Out E' A n ∧ n ≤ c)) := H_ fun W hW => by
  refine (dwithin_any (D := D) (E := E) (l := l) ⟨h.st.stay (tkLasts _) hW, h.at_.stay hW, h.off, h.room⟩ hs56 hkl hky ih).mono ?_
  rintro e w' ⟨A, c, E', he, h1, h2, h3, h4, _⟩
  rw [← hnn] at he h1 h2 h3 h4
  exact ⟨A, c, E', he, H_ ⟨h1, h2, h3, h4⟩⟩
 have HRO : Hid (∀ E1 w1 A c, Tkg (TkSt fv) E1 w1 (l ++ withN j n) → RdD w1 A n (rowOf j) → Out E1 A n → n ≤ c → Calls Tryz.prog 70 #[fv, .slice A n c] w1 fun e w' => e = .returned (.agg RV.toArray) ∧ ∃ E', Took (TkSt fv) E1 E' w1 w' (l ++ withN j n ++ allTx (rowOf j))) := H_ fun E1 w1 A c h1 h2 h3 h4 => by
  have h5 := row_any h1 A n c (rowOf j) h2 h3 h4 (by omega) (by rw [List.length_append]; omega)
  rw [← hDR, ← hRV] at h5
  exact h5
 have HSO : Hid (∀ W, Calls Tryz.prog 47 #[.agg #[.iface T y]] W fun e w' => e = .returned (.int .i64 6) ∧ Keeps (fun _ => False) W w') := H_ fun W => by have := refsort_any h.at_ W; rwa [hs] at this
 have HLE : Hid (∀ W, Keeps (fun _ => False) w W → Calls Tryz.prog 81 #[.agg #[.iface T y]] W fun e w' => e = .returned (.int .i64 n) ∧ Keeps (fun _ => False) W w') := H_ fun W hW => by have := len_any h.at_ W hW; rwa [← hnn] at this
 have HLJ : Hid (∀ V, JAt D V (.iface T y) j → ∀ W, Keeps (fun _ => False) V W → Calls Tryz.prog 81 #[.agg #[.iface T y]] W fun e w' => e = .returned (.int .i64 n) ∧ Keeps (fun _ => False) W w') := H_ fun V hV W hW => by have := len_any hV W hW; rwa [← hnn] at this
 have HGR : Hid (∀ E1 w1, Tkg (TkSt fv) E1 w1 (l ++ withN j n ++ allTx (rowOf j)) → Calls Tryz.prog 73 #[fv, .int .i64 6, .int .i64 n, .agg RV.toArray] w1 fun e w' => e = .returned (.agg DV.toArray) ∧ ∃ E', Took (TkSt fv) E1 E' w1 w' LL) := H_ fun E1 w1 h1 => by
  have h5 := group_any h1 (by rw [List.length_append, List.length_append]; omega) 6 n (by omega) DR hDRl.1 hDRl.2
  rw [← hdg, ← hRV, ← hDV] at h5
  rw [hLL, htx]
  simpa [List.append_assoc] using h5
 have HH := H_ (And.intro h.st (And.intro h.at_ h.off))
 have HW0 : Hid (Keeps (fun _ => False) w ((w.alloc (.cells #[.iface T y] 95)).alloc (.cells (List.replicate 32 (Value.int .u8 0)).toArray 23)) ∧ Blk ((w.alloc (.cells #[.iface T y] 95)).alloc (.cells (List.replicate 32 (Value.int .u8 0)).toArray 23)) N 95 [.iface T y] ∧ Blk ((w.alloc (.cells #[.iface T y] 95)).alloc (.cells (List.replicate 32 (Value.int .u8 0)).toArray 23)) (N + 1) 23 (List.replicate 32 (Value.int .u8 0))) := H_ ⟨((Keeps.refl _ w).alloc _).alloc _, by rw [hN]; exact (Blk.new _ _ _).alloc _, by
  have h := Blk.new (w.alloc (.cells #[.iface T y] 95)) 23 (List.replicate 32 (Value.int .u8 0))
  rwa [World.size_alloc, ← hN] at h⟩
 have HNN := H_ hN
 have HNE : Hid (¬ E N ∧ ¬ E (N + 1)) := H_ ⟨fun he => by have := h.st.lt _ he; omega, fun he => by have := h.st.lt _ he; omega⟩
 clear h hok hs hn hky ih hkl hs56 hnn hDR hDRl hDV hRV htx hdg hnodes hroom hnl hLL hN hal
 have a1 := va_obj_null
 have a2 := va_obj_flag
 have a3 := va_obj_num
 have a4 := va_obj_text
 go_enter Tryz.func67, Tryz.ntmps67
 go_upto_region 1 with fail
 refine gen_codeF (fun W => Keeps (fun _ => False) w W ∧ Blk W N 95 [.iface T y] ∧ Blk W (N + 1) 23 (List.replicate 32 (Value.int .u8 0))) HW0.out ?_
 rintro w1 ⟨k1, b1, z1⟩
 have hNN := HNN.out
 rw [← hNN]
 clear hNN
 have c0 := b1.cell 0
 have HK1 := H_ k1
 have HZ1 := H_ (And.intro b1 z1)
 clear k1 b1 z1
 go_upto_region 16 with (go_at_call 137; refine (HVA.out _ HK1.out).mono ?_; rintro e w2 ⟨A2, m2, c2, rfl, hk2⟩; have HK2 := H_ (HK1.out.trans hk2 fun _ _ h => h); have HK2b := H_ hk2; have HZ2 := H_ (And.intro (hk2.blk HZ1.out.1 fun h => h) (hk2.blk HZ1.out.2 fun h => h)); have c02 := HZ2.out.1.cell 0; clear hk2)
 go_upto_region 17 with (first
  | (go_at_call 94; refine (HWI.out _ HK2.out).mono ?_; rintro e w3 ⟨A3, c3, E3, rfl, H3⟩; have HT3 := H_ (HH.out.1.stay (tkLasts _) HK2.out |>.next H3.out.1); have HB3 := H_ (And.intro (H3.out.1.keep.blk HZ2.out.1 HNE.out.1) (H3.out.1.keep.blk HZ2.out.2 HNE.out.2)))
  | (go_at_call 70; refine (HRO.out E3 _ A3 c3 HT3.out H3.out.2.1 H3.out.2.2.1 H3.out.2.2.2).mono ?_; rintro e w4 ⟨rfl, E4, hT4⟩; have HT4 := H_ hT4; have HG4 := H_ (HT3.out.next hT4); have HN3 := H_ (of_off HNE.out HZ1.out.2.lt HK2b.out H3.out.1); have HB4 := H_ (And.intro (hT4.keep.blk HB3.out.1 HN3.out.1) (hT4.keep.blk HB3.out.2 HN3.out.2)); have HZ4 := H_ (Blk.new w4 23 (List.replicate 32 (Value.int .u8 0))); clear hT4)
  | ((with_reducible show wpList _ _ _ (⟨none, Op.store 23 _ _, _, _, _, _⟩ :: _) _ _); refine wpList_store_whole rfl 23 _ _ rfl RV rfl rfl HZ4.out (by rw [HDR.out.1]; simp) (infoDg RV HDR.out.1) HDR.out.2 ?_))
 obtain ⟨p, hp⟩ : ∃ p, p = w4.heap.size := ⟨_, rfl⟩
 have HW5 : Hid (Keeps (fun _ => False) w4 ((w4.alloc (.cells (List.replicate 32 (Value.int .u8 0)).toArray 23)).setRow w4.heap.size RV.toArray) ∧ Blk ((w4.alloc (.cells (List.replicate 32 (Value.int .u8 0)).toArray 23)).setRow w4.heap.size RV.toArray) p 23 RV) := H_ ⟨((Keeps.refl (fun _ => False) w4).alloc _).setRow (.inr (Nat.le_refl _)) _, by rw [hp]; exact HZ4.out.setRow RV⟩
 rw [← hp] at HW5 ⊢
 refine gen_codeF (fun W => Keeps (fun _ => False) w4 W ∧ Blk W p 23 RV) HW5.out ?_
 rintro w5 ⟨k5, b5⟩
 have HK5 := H_ k5
 have HB5 := H_ (And.intro (k5.blk HB4.out.1 fun h => h) (And.intro (k5.blk HB4.out.2 fun h => h) b5))
 have HG5 := H_ (HG4.out.stay (tkLasts _) k5)
 have HJ5 : Hid (JAt D w5 (.iface T y) j) := H_ (by
  have hlt : ∀ i, (D i ∧ i < w2.heap.size) → ¬ E3 i := fun i hi e => (H3.out.1.new i e).elim (HH.out.2.2 i hi.1) fun h => by have := hi.2; omega
  exact ((((HH.out.2.1.stay HK2.out).mono (C := fun i => D i ∧ i < w2.heap.size) fun i h1 h2 => ⟨h1, h2⟩).keep H3.out.1.keep fun i hi => HH.out.2.2 i hi.1).keep HT4.out.keep hlt |>.stay k5).mono fun i hi _ => hi.1)
 have HNE4 : Hid (¬ E4 (N + 1)) := H_ fun e => (HT4.out.new _ e).elim HN3.out.2 fun h => by
  have := HB3.out.2.lt
  omega
 clear k5 b5 HW5 hp
 refine wp_region_tail (S := (fun V => Keeps (fun _ => False) w5 V)) 6 (by kernel_rfl) (Keeps.refl _ _).drew (fun h_ => ?_)
 refine tJ 0 47 ?_
 try simp only [pu]
 refine tT [1, 2] (i := 1) (oi := ⟨some 48, _, _, _, _, _⟩) (v := ?_) rfl (Or.inl ⟨by rfl, ?_⟩) h_ ?_
 rotate_left
 ·intro w' hSw
  have cv := (hSw.blk HB5.out.1 fun h => h).cell 0
  go_simp
  first | done | rfl
 try simp only [pu]
 refine tT [3, 4] (i := 3) (oi := ⟨some 50, _, _, _, _, _⟩) (v := ?_) rfl (Or.inl ⟨by rfl, ?_⟩) h_ ?_
 rotate_left
 ·intro w' hSw
  have cv := (hSw.blk HB5.out.1 fun h => h).cell 0
  go_simp
  first | done | rfl
 try simp only [pu]
 refine tT [5] (i := 5) (oi := ⟨some 52, _, _, _, _, _⟩) (v := _) rfl (yieldsIf_load_mid (by rfl) _ _ rfl _ _ rfl RV _ (fun w' h => blk_rngD (h.blk HB5.out.2.2 fun h => h)) Tryz.underlying23 rfl (infoDg RV HDR.out.1)) h_ ?_
 try simp only [pu]
 refine wpAnyT_step (i := 2) (o := ⟨some 49, _, _, _, _, _⟩) (by kernel_rfl) rfl (fun K hK => ?_)
 go_simp
 refine (HSO.out _).mono ?_
 rintro e w6 ⟨rfl, hk6⟩
 have hS6 := h_.trans hk6 (fun _ _ h => h)
 refine hK.out _ _ hS6 (fun h_ => ?_)
 clear hK K
 try simp only [pu]
 refine wpAnyT_step (i := 4) (o := ⟨some 51, _, _, _, _, _⟩) (by kernel_rfl) rfl (fun K hK => ?_)
 go_simp
 refine (HLJ.out w5 HJ5.out _ h_).mono ?_
 rintro e w8 ⟨rfl, hk8⟩
 have hS8 := h_.trans hk8 (fun _ _ h => h)
 refine hK.out _ _ hS8 (fun h_ => ?_)
 clear hK K
 try simp only [pu]
 refine wpAnyT_tail (i := 6) (o := ⟨some 53, _, _, _, _, _⟩) (by kernel_rfl) (by kernel_rfl) rfl (fun K hK => ?_)
 go_simp
 refine (HGR.out E4 _ (HG5.out.stay (tkLasts _) hS8)).mono ?_
 rintro e w9 ⟨rfl, E9, hT9⟩
 have HT9 := H_ hT9; have HZ9 := H_ (hT9.keep.blk (hS8.blk HB5.out.2.1 fun h => h) HNE4.out)
 refine hK.out _ _ ?_
 clear hK K
 try simp only [pu]
 refine wpAnyT_tail (i := 7) (o := ⟨none, _, _, _, _, _⟩) (by kernel_rfl) (by kernel_rfl) rfl (fun K hK => ?_)
 refine step_store_whole rfl 23 (.tmp 4) (.tmp 53) rfl DV rfl rfl HZ9.out (by rw [HDL.out]; simp) HIN.out HD1.out ?_
 refine hK.out _ _ ?_
 clear hK K
 try simp only [pu]
 refine wpAnyT_done (by kernel_rfl) ?_
 go_wp2
 refine bodyPost_ret (results_blk rfl _ _ rfl (HZ9.out.setRow DV) Tryz.underlying23 rfl HIN.out) rfl ⟨rfl, E9, ?_⟩
 have ht : Took (TkSt fv) E E9 w w9 LL := Took.begin HK2.out (((H3.out.1.trans HT4.out).stay (tkLasts _) (HK5.out.trans hS8 fun _ _ h => h)).trans HT9.out)
 refine ht.more (tkLasts _) (setRow_keep _ _ _) fun i hi => ?_
 subst hi
 refine ⟨by have := HNN.out; omega, fun he => ?_⟩
 rcases HT9.out.new _ he with h1 | h1
 ·exact HNE4.out h1
 ·have h2 := (hS8.blk HB5.out.2.1 fun h => h).lt
  omega
theorem key_le {j : JV} {k : ByteArray} (h : k ∈ j.keys) : k.size ≤ j.bytes := by
 cases j with
 | obj ks l =>
  have := sumN_mem (List.mem_map.2 ⟨k, h, rfl⟩ : k.size ∈ ks.map fun k => k.size)
  rw [JV.bytes]
  omega
 | null | flag | num | text | list => cases h
theorem item_bytes {j x : JV} (h : x ∈ j.items) : x.bytes ≤ j.bytes := by
 rw [JV.bytes_eq j]
 have := sumN_mem (List.mem_map.2 ⟨x, h, rfl⟩ : x.bytes ∈ j.items.map fun x => x.bytes)
 omega
theorem dof_any (fv : Value) : ∀ (j : JV), JOk j → j.nodes ≤ 1048576 → j.bytes ≤ 4194304 → ∀ (D E : Nat → Prop) (w : World) (l : List (List Int)) (v : Value), WiIn fv D E w l v j → Calls Tryz.prog 67 #[fv, .agg #[v]] w (DOf fv E w l j) := by
 intro j hok
 induction hok with
 | mk j h1 h2 hp hr ht h ih =>
  intro hn hb D E w l v hw
  have hok : JOk j := .mk j h1 h2 hp hr ht h
  have hl : l.length ≤ 1099511627776 := by have := hw.room; omega
  have hall : OfAll fv j := fun x hx D' E' w' l' v' hw' => ih x hx (Nat.le_trans (nodes_item hx) hn) (Nat.le_trans (item_bytes hx) hb) D' E' w' l' v' hw'
  have hky : ∀ k ∈ j.keys, k.size ≤ 4194304 := fun k hk => Nat.le_trans (key_le hk) hb
  by_cases h5 : j.sort = 5
  ·exact of_list hw hok h5 hn hky hall
  ·by_cases h6 : j.sort = 6
   ·exact of_obj hw hok h6 hn hky hall
   ·obtain ⟨T, y, hv⟩ := hw.at_.iface
    subst hv
    have hva : ∀ W, Keeps (fun _ => False) w W → Calls Tryz.prog 137 #[.agg #[.iface T y]] W (ValPost W j) := fun W hW => val_any j hok hn D W _ (hw.at_.stay hW)
    have hat := hw.at_
    cases j with
    | null => exact of_null hw.st hl T y fun W hW => (hva W hW).mono fun e w' ⟨v', he, hv', hk⟩ => by cases hv'; exact ⟨he, hk⟩
    | flag b => exact of_flag hw.st hl b T y fun W hW => (hva W hW).mono fun e w' ⟨v', he, hv', hk⟩ => by cases hv'; exact ⟨he, hk⟩
    | num b =>
     have hb64 : b < 18446744073709551616 := by cases hat; assumption
     exact of_num hw.st hl b hb64 T y fun W hW => (hva W hW).mono fun e w' ⟨v', he, hv', hk⟩ => by cases hv'; exact ⟨he, hk⟩
    | text s =>
     have hs : s.size ≤ 1099511627000 := by rw [JV.bytes] at hb; omega
     exact of_text hw.st hl s hs T y fun W hW => (hva W hW).mono fun e w' ⟨v', he, hv', hk⟩ => by cases hv'; exact ⟨he, hk⟩
    | list l => exact absurd rfl h5
    | obj ks l => exact absurd rfl h6
theorem dof_plain {D : Nat → Prop} {w : World} {v : Value} {j : JV} (hG : GW w) (hj : JAt D w v j) (hok : JOk j) (hn : j.nodes ≤ 1048576) (hb : j.bytes ≤ 4194304) : Calls Tryz.prog 67 #[.nilFunc, .agg #[v]] w fun e w' => e = .returned (.agg (vb j.dg).toArray) ∧ Keeps (fun _ => False) w w' :=
 (dof_any .nilFunc j hok hn hb D (fun _ => False) w [] v ⟨Tkg.none hG [], hj, fun _ _ h => h, by simp; omega⟩).mono fun e w' ⟨h1, E', h2⟩ => ⟨h1, h2.keep⟩
end Go.Proofs.YtplleficmkfniaaGreatDoor
