/- Texts. -/
import Derived.Test.YtdmcioghdindfaaGreatDoorT35
import Derived.Test.YtdmcioghdindfaaGreatDoorT32
set_option linter.unusedSimpArgs false
set_option maxRecDepth 100000
set_option maxHeartbeats 4000000
namespace Go.Proofs.YtdmcioghdindfaaGreatDoor
open Go Go.RowKit Go.Aff Go.Json
attribute [local go_sem] Oper.semAt_some
structure RThIn (D : Nat → Prop) (w : World) (vo vx vy : List Value) (o x y : Option JV) (Wa : Option Addr) (wn : Nat) (way : List ByteArray) : Prop where
  ao : ORAt D w vo o
  ax : ORAt D w vx x
  ay : ORAt D w vy y
  oo : OOk o
  ox : OOk x
  oy : OOk y
  low : ∀ i, D i → i < w.heap.size
  row : Rd w Wa wn (way.map .string)
  len : way.length = wn
  keys : KeysP way
  room : wn + ow JV.deep x ≤ 65536
  so : ∀ j, o = some j → j.nodes ≤ 65536 ∧ j.bytes ≤ 2097152
  sx : ∀ j, x = some j → j.nodes ≤ 65536 ∧ j.bytes ≤ 2097152
  sy : ∀ j, y = some j → j.nodes ≤ 65536 ∧ j.bytes ≤ 2097152
def RThPost (D : Nat → Prop) (w : World) (r : Option JV × List ByteArray) (e : Ending) (w' : World) : Prop :=
  ∃ v A n c, e = .returned (.tuple #[.agg v.toArray, .slice A n c]) ∧ ORAt (fun i => D i ∨ w.heap.size ≤ i) w' v r.1 ∧ Rd w' A n (r.2.map .string) ∧ r.2.length = n ∧ InB (fun i => w.heap.size ≤ i) A n ∧ Keeps (fun _ => False) w w'
structure RTh0 (w W : World) (b4 b5 b6 b8 : Nat) (vo vx vy : List Value) : Prop where
  keep : Keeps (fun _ => False) w W
  k4 : Blk W b4 31 vo
  k5 : Blk W b5 31 vx
  k6 : Blk W b6 31 vy
  k8 : Blk W b8 31 [.int .i64 0, .bool false, .int .u64 0, .string .empty, .slice none 0 0, .slice none 0 0]
  lo : w.heap.size ≤ b8 ∧ b4 < b8 ∧ b5 < b8 ∧ b6 < b8
theorem RTh0.stay {w W W' : World} {b4 b5 b6 b8 : Nat} {vo vx vy : List Value} (h : RTh0 w W b4 b5 b6 b8 vo vx vy) (k : Keeps (fun _ => False) W W') : RTh0 w W' b4 b5 b6 b8 vo vx vy := ⟨h.keep.trans k fun _ _ h => h, k.blk h.k4 fun h => h, k.blk h.k5 fun h => h, k.blk h.k6 fun h => h, k.blk h.k8 fun h => h, h.lo⟩
theorem RTh0.start (w : World) (vo vx vy : List Value) : RTh0 w ((((w.alloc (.cells vo.toArray 31)).alloc (.cells vx.toArray 31)).alloc (.cells vy.toArray 31)).alloc (.cells #[.int .i64 0, .bool false, .int .u64 0, .string .empty, .slice none 0 0, .slice none 0 0] 31)) w.heap.size (w.heap.size + 1) (w.heap.size + 1 + 1) (w.heap.size + 1 + 1 + 1) vo vx vy := by
  have h1 := Blk.new w 31 vo
  have h2 := Blk.new (w.alloc (.cells vo.toArray 31)) 31 vx
  have h3 := Blk.new ((w.alloc (.cells vo.toArray 31)).alloc (.cells vx.toArray 31)) 31 vy
  have h4 := Blk.new (((w.alloc (.cells vo.toArray 31)).alloc (.cells vx.toArray 31)).alloc (.cells vy.toArray 31)) 31 [.int .i64 0, .bool false, .int .u64 0, .string .empty, .slice none 0 0, .slice none 0 0]
  simp only [World.size_alloc] at h2 h3 h4
  exact ⟨((((Keeps.refl _ w).alloc _).alloc _).alloc _).alloc _, ((h1.alloc _).alloc _).alloc _, (h2.alloc _).alloc _, h3.alloc _, h4, by omega⟩
theorem rsame_is {D E : Nat → Prop} {w : World} {v v2 : List Value} {o1 o2 : Option JV} (h : ORAt D w v o1) (h2 : ORAt E w v2 o2) (hok : OOk o1) (hs : ∀ j, o1 = some j → j.nodes ≤ 65536 ∧ j.bytes ≤ 2097152) (b : Bool) (hb : b = true ↔ o1 = o2) :
    Hid (∀ W, Keeps (fun _ => False) w W → Calls Tryz.prog 39 #[.agg v.toArray, .agg v2.toArray] W fun e w' => e = .returned (.bool b) ∧ Hid (Keeps (fun _ => False) W w')) := H_ fun W hW => by
  refine (rsame18_any W v v2 o1 o2 (h.stay hW) (h2.stay hW) fun j hj => ⟨hok j hj, by have := (hs j hj).1; omega⟩).mono ?_
  rintro e w' ⟨b', he, hb', hk⟩
  have : b' = b := by
    cases b' <;> cases b <;> first | rfl | exact absurd (hb.1 rfl) fun e => by simpa using hb'.2 e | exact absurd (hb'.1 rfl) fun e => by simpa using hb.2 e
  subst this
  exact ⟨he, H_ hk⟩
section
variable {D : Nat → Prop} {w W : World} {vo vx vy : List Value} {o x y : Option JV} {Wa : Option Addr} {wn : Nat} {way : List ByteArray} {b4 b5 b6 b8 : Nat}
theorem rth_one {r : Option JV × List ByteArray} {v : List Value} (h : RThIn D w vo vx vy o x y Wa wn way) (k : RTh0 w W b4 b5 b6 b8 vo vx vy) (hv : ORAt D w v r.1) (hr : r.2 = []) : RThPost D w r (.returned (.tuple #[.agg v.toArray, .slice none 0 0])) (W.setRow b8 v.toArray) := by
  refine ⟨v, none, 0, 0, rfl, ?_, ?_, by rw [hr]; rfl, fun h => absurd h (Nat.lt_irrefl 0), k.keep.trans (setRow_keep _ _ _) fun i hi e => by have := k.lo.1; omega⟩
  · exact ((hv.stay k.keep).keep (setRow_keep _ _ _) fun i hi e => by have := h.low i hi; have := k.lo.1; omega).mono fun i hi _ => .inl hi
  rw [hr]; exact ⟨rfl, fun h => absurd h (Nat.lt_irrefl 0)⟩
end
theorem rth_first {D : Nat → Prop} {w : World} {vo vx vy : List Value} {o x y : Option JV} {Wa : Option Addr} {wn : Nat} {way : List ByteArray} (h : RThIn D w vo vx vy o x y Wa wn way) (wc0 : Nat) (h1 : (x = y ∨ y = o) ∨ x = o) :
    Calls Tryz.prog 10 #[.agg vo.toArray, .agg vx.toArray, .agg vy.toArray, .slice Wa wn wc0] w (RThPost D w (three o x y way)) := by
  have HH := H_ h
  have HSO := H_ (infoV h.ao.len)
  have HSX := H_ (infoV h.ax.len)
  have HSY := H_ (infoV h.ay.len)
  have HST := H_ (RTh0.start w vo vx vy)
  obtain ⟨b4, hq4⟩ : ∃ b, b = w.heap.size := ⟨_, rfl⟩
  obtain ⟨b5, hq5⟩ : ∃ b, b = w.heap.size + 1 := ⟨_, rfl⟩
  obtain ⟨b6, hq6⟩ : ∃ b, b = w.heap.size + 1 + 1 := ⟨_, rfl⟩
  obtain ⟨b8, hq8⟩ : ∃ b, b = w.heap.size + 1 + 1 + 1 := ⟨_, rfl⟩
  rw [← hq8, ← hq6, ← hq5, ← hq4] at HST
  have tk : True := trivial
  have tm : True := trivial
  have tn : True := trivial
  by_cases hxy : x = y
  · have HXY := rsame_is h.ax h.ay h.ox h.sx true (by simp [hxy])
    have HR := H_ (three_alike (way := way) (.inl hxy : x = y ∨ y = o))
    clear h h1 hxy
    go_enter Tryz.func10, Tryz.ntmps10
    go_upto_region 1 with fail
    rw [← hq8, ← hq6, ← hq5, ← hq4]
    refine gen_codeF (fun W => RTh0 w W b4 b5 b6 b8 vo vx vy) HST.out ?_
    intro w1 hw1
    have H1 := H_ hw1
    clear hw1 HST hq4 hq5 hq6 hq8
    go_wp2_with (first
      | ((with_reducible show wpList _ _ _ (⟨some 16, _, _, _, _, _⟩ :: _) _ _); refine wpList_load_whole rfl 31 _ rfl _ rfl H1.out.k5 Tryz.underlying31 rfl HSX.out ?_)
      | ((with_reducible show wpList _ _ _ (⟨some 17, _, _, _, _, _⟩ :: _) _ _); refine wpList_load_whole rfl 31 _ rfl _ rfl H1.out.k6 Tryz.underlying31 rfl HSY.out ?_)
      | (go_at_call 39; have _t := tk; clear tk; refine (HXY.out _ H1.out.keep).mono ?_; rintro e w2 ⟨rfl, hk2⟩; have H2 := H_ (H1.out.stay hk2.out); clear hk2)
      | ((with_reducible show wpList _ _ _ (⟨some 19, _, _, _, _, _⟩ :: _) _ _); refine wpList_load_whole rfl 31 _ rfl _ rfl H2.out.k5 Tryz.underlying31 rfl HSX.out ?_)
      | ((with_reducible show wpList _ _ _ (⟨none, Op.store 31 _ (.tmp 19), _, _, _, _⟩ :: _) _ _); refine wpList_store_whole rfl 31 _ _ rfl vx rfl rfl H2.out.k8 (by rw [HH.out.ax.len]; rfl) HSX.out HH.out.ax.one ?_)
      )
    rw [HR.out]
    exact bodyPost_ret (results_blk_t1 rfl _ _ rfl (H2.out.k8.setRow vx) Tryz.underlying31 rfl HSX.out) rfl (rth_one HH.out H2.out HH.out.ax rfl)
  have HXY := rsame_is h.ax h.ay h.ox h.sx false ⟨fun e => (by cases e), fun e => absurd e hxy⟩
  by_cases hxo : x = o
  · have HXO := rsame_is h.ax h.ao h.ox h.sx true (by simp [hxo])
    have HR := H_ (three_other (way := way) (fun h : x = y ∨ y = o => h.elim hxy fun h => hxy (hxo.trans h.symm)) hxo)
    clear h h1 hxy hxo
    go_enter Tryz.func10, Tryz.ntmps10
    go_upto_region 1 with fail
    rw [← hq8, ← hq6, ← hq5, ← hq4]
    refine gen_codeF (fun W => RTh0 w W b4 b5 b6 b8 vo vx vy) HST.out ?_
    intro w1 hw1
    have H1 := H_ hw1
    clear hw1 HST hq4 hq5 hq6 hq8
    go_wp2_with (first
      | ((with_reducible show wpList _ _ _ (⟨some 16, _, _, _, _, _⟩ :: _) _ _); refine wpList_load_whole rfl 31 _ rfl _ rfl H1.out.k5 Tryz.underlying31 rfl HSX.out ?_)
      | ((with_reducible show wpList _ _ _ (⟨some 17, _, _, _, _, _⟩ :: _) _ _); refine wpList_load_whole rfl 31 _ rfl _ rfl H1.out.k6 Tryz.underlying31 rfl HSY.out ?_)
      | (go_at_call 39; have _t := tk; clear tk; refine (HXY.out _ H1.out.keep).mono ?_; rintro e w2 ⟨rfl, hk2⟩; have H2 := H_ (H1.out.stay hk2.out); clear hk2)
      | ((with_reducible show wpList _ _ _ (⟨some 20, _, _, _, _, _⟩ :: _) _ _); refine wpList_load_whole rfl 31 _ rfl _ rfl H2.out.k5 Tryz.underlying31 rfl HSX.out ?_)
      | ((with_reducible show wpList _ _ _ (⟨some 21, _, _, _, _, _⟩ :: _) _ _); refine wpList_load_whole rfl 31 _ rfl _ rfl H2.out.k4 Tryz.underlying31 rfl HSO.out ?_)
      | (go_at_call 39; have _t := tm; clear tm; refine (HXO.out _ H2.out.keep).mono ?_; rintro e w3 ⟨rfl, hk3⟩; have H3 := H_ (H2.out.stay hk3.out); clear hk3)
      | ((with_reducible show wpList _ _ _ (⟨some 23, _, _, _, _, _⟩ :: _) _ _); refine wpList_load_whole rfl 31 _ rfl _ rfl H3.out.k6 Tryz.underlying31 rfl HSY.out ?_)
      | ((with_reducible show wpList _ _ _ (⟨none, Op.store 31 _ (.tmp 23), _, _, _, _⟩ :: _) _ _); refine wpList_store_whole rfl 31 _ _ rfl vy rfl rfl H3.out.k8 (by rw [HH.out.ay.len]; rfl) HSY.out HH.out.ay.one ?_)
      )
    rw [HR.out]
    exact bodyPost_ret (results_blk_t1 rfl _ _ rfl (H3.out.k8.setRow vy) Tryz.underlying31 rfl HSY.out) rfl (rth_one HH.out H3.out HH.out.ay rfl)
  have HXO := rsame_is h.ax h.ao h.ox h.sx false ⟨fun e => (by cases e), fun e => absurd e hxo⟩
  have hyo : y = o := (h1.resolve_right hxo).resolve_left hxy
  have HYO := rsame_is h.ay h.ao h.oy h.sy true (by simp [hyo])
  have HR := H_ (three_alike (way := way) (.inr hyo : x = y ∨ y = o))
  clear h h1 hxy hxo hyo
  go_enter Tryz.func10, Tryz.ntmps10
  go_upto_region 1 with fail
  rw [← hq8, ← hq6, ← hq5, ← hq4]
  refine gen_codeF (fun W => RTh0 w W b4 b5 b6 b8 vo vx vy) HST.out ?_
  intro w1 hw1
  have H1 := H_ hw1
  clear hw1 HST hq4 hq5 hq6 hq8
  go_wp2_with (first
    | ((with_reducible show wpList _ _ _ (⟨some 16, _, _, _, _, _⟩ :: _) _ _); refine wpList_load_whole rfl 31 _ rfl _ rfl H1.out.k5 Tryz.underlying31 rfl HSX.out ?_)
    | ((with_reducible show wpList _ _ _ (⟨some 17, _, _, _, _, _⟩ :: _) _ _); refine wpList_load_whole rfl 31 _ rfl _ rfl H1.out.k6 Tryz.underlying31 rfl HSY.out ?_)
    | (go_at_call 39; have _t := tk; clear tk; refine (HXY.out _ H1.out.keep).mono ?_; rintro e w2 ⟨rfl, hk2⟩; have H2 := H_ (H1.out.stay hk2.out); clear hk2)
    | ((with_reducible show wpList _ _ _ (⟨some 20, _, _, _, _, _⟩ :: _) _ _); refine wpList_load_whole rfl 31 _ rfl _ rfl H2.out.k5 Tryz.underlying31 rfl HSX.out ?_)
    | ((with_reducible show wpList _ _ _ (⟨some 21, _, _, _, _, _⟩ :: _) _ _); refine wpList_load_whole rfl 31 _ rfl _ rfl H2.out.k4 Tryz.underlying31 rfl HSO.out ?_)
    | (go_at_call 39; have _t := tm; clear tm; refine (HXO.out _ H2.out.keep).mono ?_; rintro e w3 ⟨rfl, hk3⟩; have H3 := H_ (H2.out.stay hk3.out); clear hk3)
    | ((with_reducible show wpList _ _ _ (⟨some 24, _, _, _, _, _⟩ :: _) _ _); refine wpList_load_whole rfl 31 _ rfl _ rfl H3.out.k6 Tryz.underlying31 rfl HSY.out ?_)
    | ((with_reducible show wpList _ _ _ (⟨some 25, _, _, _, _, _⟩ :: _) _ _); refine wpList_load_whole rfl 31 _ rfl _ rfl H3.out.k4 Tryz.underlying31 rfl HSO.out ?_)
    | (go_at_call 39; have _t := tn; clear tn; refine (HYO.out _ H3.out.keep).mono ?_; rintro e w4 ⟨rfl, hk4⟩; have H4 := H_ (H3.out.stay hk4.out); clear hk4)
    | ((with_reducible show wpList _ _ _ (⟨some 27, _, _, _, _, _⟩ :: _) _ _); refine wpList_load_whole rfl 31 _ rfl _ rfl H4.out.k5 Tryz.underlying31 rfl HSX.out ?_)
    | ((with_reducible show wpList _ _ _ (⟨none, Op.store 31 _ (.tmp 27), _, _, _, _⟩ :: _) _ _); refine wpList_store_whole rfl 31 _ _ rfl vx rfl rfl H4.out.k8 (by rw [HH.out.ax.len]; rfl) HSX.out HH.out.ax.one ?_)
    )
  rw [HR.out]
  exact bodyPost_ret (results_blk_t1 rfl _ _ rfl (H4.out.k8.setRow vx) Tryz.underlying31 rfl HSX.out) rfl (rth_one HH.out H4.out HH.out.ax rfl)
theorem osort_six {o : Option JV} : sortO o = osort o := by cases o <;> rfl
theorem sort_cell {D : Nat → Prop} {w W : World} {v : List Value} {o : Option JV} {b : Nat} (h : ORAt D w v o) (k : Blk W b 31 v) : W.cell? ⟨b, 0, none⟩ = some (.int .i64 (osort o)) := by
  obtain ⟨u1, u2, u3, A, na, c, B, nb, d, hv⟩ := h.six
  rw [k.cell 0, hv]; rfl
theorem rth_said {D : Nat → Prop} {w W V : World} {vo vx vy : List Value} {o x y : Option JV} {Wa : Option Addr} {wn : Nat} {way : List ByteArray} {b4 b5 b6 b8 g : Nat} {s : ByteArray} (h : RThIn D w vo vx vy o x y Wa wn way) (k : RTh0 w W b4 b5 b6 b8 vo vx vy) (hk : Keeps (fun q => q = b8) W V) (hg : Blk V g 9 [.string s]) (hlo : W.heap.size ≤ g) :
    RThPost D w (x, [s]) (.returned (.tuple #[.agg vx.toArray, .slice (some ⟨g, 0, none⟩) 1 1])) V := by
  have hw := k.keep.size
  refine ⟨vx, some ⟨g, 0, none⟩, 1, 1, rfl, ?_, ⟨rfl, fun _ => ⟨g, 0, rfl, fun j hj => by rw [Nat.zero_add]; exact hg.cell j⟩⟩, rfl, fun _ a e => by injection e with e; rw [← e]; exact Nat.le_trans hw hlo, k.keep.trans hk fun i hi e => by have := k.lo.1; omega⟩
  exact ((h.ax.stay k.keep).keep hk fun i hi e => by have := h.low i hi; have := k.lo.1; omega).mono fun i hi _ => .inl hi
theorem rth_clash {D : Nat → Prop} {w : World} {vo vx vy : List Value} {o x y : Option JV} {Wa : Option Addr} {wn : Nat} {way : List ByteArray} (h : RThIn D w vo vx vy o x y Wa wn way) (wc0 : Nat) (h1 : ¬ (x = y ∨ y = o)) (h2 : x ≠ o) (h3 : ¬ (sortO x = 6 ∧ sortO y = 6)) :
    Calls Tryz.prog 10 #[.agg vo.toArray, .agg vx.toArray, .agg vy.toArray, .slice Wa wn wc0] w (RThPost D w (three o x y way)) := by
  have HH := H_ h
  have HSO := H_ (infoV h.ao.len)
  have HSX := H_ (infoV h.ax.len)
  have HSY := H_ (infoV h.ay.len)
  have HST := H_ (RTh0.start w vo vx vy)
  obtain ⟨b4, hq4⟩ : ∃ b, b = w.heap.size := ⟨_, rfl⟩
  obtain ⟨b5, hq5⟩ : ∃ b, b = w.heap.size + 1 := ⟨_, rfl⟩
  obtain ⟨b6, hq6⟩ : ∃ b, b = w.heap.size + 1 + 1 := ⟨_, rfl⟩
  obtain ⟨b8, hq8⟩ : ∃ b, b = w.heap.size + 1 + 1 + 1 := ⟨_, rfl⟩
  rw [← hq8, ← hq6, ← hq5, ← hq4] at HST
  have HXY := rsame_is h.ax h.ay h.ox h.sx false ⟨fun e => (by cases e), fun e => absurd (.inl e) h1⟩
  have HXO := rsame_is h.ax h.ao h.ox h.sx false ⟨fun e => (by cases e), fun e => absurd e h2⟩
  have HYO := rsame_is h.ay h.ao h.oy h.sy false ⟨fun e => (by cases e), fun e => absurd (.inr e) h1⟩
  have HR := H_ (three_clash (way := way) h1 h2 h3)
  have hroom := h.room
  have HPR : Hid (∀ W, Keeps (fun _ => False) w W → Calls Tryz.prog 24 #[.slice Wa wn wc0] W fun e w' => e = .returned (.string (printB way)) ∧ Hid (Keeps (fun _ => False) W w')) := H_ fun W hW => by
    refine (rprint_any W Wa wn wc0 way HH.out.len (HH.out.row.keep hW fun _ _ _ h => h) (fun t ht => (HH.out.keys t ht).2) (by omega)).mono ?_
    rintro e w' ⟨he, hk⟩
    exact ⟨he, H_ hk⟩
  obtain ⟨s, hs⟩ : ∃ s, s = printB way := ⟨_, rfl⟩
  rw [← hs] at HPR HR
  obtain ⟨sx, hsx⟩ : ∃ z, z = osort x := ⟨_, rfl⟩
  obtain ⟨sy, hsy⟩ : ∃ z, z = osort y := ⟨_, rfl⟩
  have hnn : ¬ (sx = 6 ∧ sy = 6) := by rw [hsx, hsy, ← osort_six, ← osort_six]; exact h3
  have HSS := H_ (And.intro hsx hsy)
  have tk : True := trivial
  have tm : True := trivial
  have tn : True := trivial
  clear h h1 h2 h3 hroom hs hsx hsy
  go_enter Tryz.func10, Tryz.ntmps10
  go_upto_region 1 with fail
  rw [← hq8, ← hq6, ← hq5, ← hq4]
  refine gen_codeF (fun W => RTh0 w W b4 b5 b6 b8 vo vx vy) HST.out ?_
  intro w1 hw1
  have H1 := H_ hw1
  clear hw1 HST hq4 hq5 hq6 hq8
  go_upto_region 7 with (first
    | ((with_reducible show wpList _ _ _ (⟨some 16, _, _, _, _, _⟩ :: _) _ _); refine wpList_load_whole rfl 31 _ rfl _ rfl H1.out.k5 Tryz.underlying31 rfl HSX.out ?_)
    | ((with_reducible show wpList _ _ _ (⟨some 17, _, _, _, _, _⟩ :: _) _ _); refine wpList_load_whole rfl 31 _ rfl _ rfl H1.out.k6 Tryz.underlying31 rfl HSY.out ?_)
    | (go_at_call 39; have _t := tk; clear tk; refine (HXY.out _ H1.out.keep).mono ?_; rintro e w2 ⟨rfl, hk2⟩; have H2 := H_ (H1.out.stay hk2.out); clear hk2)
    | ((with_reducible show wpList _ _ _ (⟨some 20, _, _, _, _, _⟩ :: _) _ _); refine wpList_load_whole rfl 31 _ rfl _ rfl H2.out.k5 Tryz.underlying31 rfl HSX.out ?_)
    | ((with_reducible show wpList _ _ _ (⟨some 21, _, _, _, _, _⟩ :: _) _ _); refine wpList_load_whole rfl 31 _ rfl _ rfl H2.out.k4 Tryz.underlying31 rfl HSO.out ?_)
    | (go_at_call 39; have _t := tm; clear tm; refine (HXO.out _ H2.out.keep).mono ?_; rintro e w3 ⟨rfl, hk3⟩; have H3 := H_ (H2.out.stay hk3.out); clear hk3)
    | ((with_reducible show wpList _ _ _ (⟨some 24, _, _, _, _, _⟩ :: _) _ _); refine wpList_load_whole rfl 31 _ rfl _ rfl H3.out.k6 Tryz.underlying31 rfl HSY.out ?_)
    | ((with_reducible show wpList _ _ _ (⟨some 25, _, _, _, _, _⟩ :: _) _ _); refine wpList_load_whole rfl 31 _ rfl _ rfl H3.out.k4 Tryz.underlying31 rfl HSO.out ?_)
    | (go_at_call 39; have _t := tn; clear tn; refine (HYO.out _ H3.out.keep).mono ?_; rintro e w4 ⟨rfl, hk4⟩; have H4 := H_ (H3.out.stay hk4.out); clear hk4)
    )
  have c5 : w4.cell? ⟨b5, 0, none⟩ = some (.int .i64 sx) := by rw [HSS.out.1]; exact sort_cell HH.out.ax H4.out.k5
  have c6 : w4.cell? ⟨b6, 0, none⟩ = some (.int .i64 sy) := by rw [HSS.out.2]; exact sort_cell HH.out.ay H4.out.k6
  have hcond : ((sx != 6) = true) ∨ ((sx != 6) = false ∧ (sy != 6) = true) := by
    by_cases h : sx = 6
    · refine .inr ⟨by rw [h]; rfl, ?_⟩
      have : sy ≠ 6 := fun e => hnn ⟨h, e⟩
      simpa using this
    exact .inl (by simpa using h)
  clear hnn
  rcases hcond with hcx | ⟨hcx, hcy⟩
  all_goals
    (  go_upto_region 8 with fail
       refine wp_region_held_drew (S := Keeps (fun q => q = b8) w4) (by kernel_rfl) (Keeps.refl _ _).drew (fun h_ => ?_)
       refine tI 0 36 h_ ?_ (hy := (yieldsIf_load_mid (by rfl) _ _ rfl _ _ rfl vx _ (fun w' h => blk_rngL (h.blk H4.out.k5 (fun e => by have := H4.out.lo; omega))) Tryz.underlying31 rfl HSX.out))
       try simp only [pu]
       refine tI 1 37 h_ ?_
       try simp only [pu]
       refine rH 2 (some 38) fun K hK => ?_
       go_simp
       refine (HPR.out _ H4.out.keep.drew).mono ?_
       rintro e v2 ⟨rfl, k2⟩
       have h2 := ((Keeps.refl (fun _ => False) w4).drew.trans k2.out fun _ _ h => h)
       have hb8 := h2.blk H4.out.k8 fun h => h
       have hp := h_.trans k2.out fun _ _ h => h.elim
       clear k2
       refine hK.out _ _ hp (fun h_ => ?_)
       clear hK K
       try simp only [pu]
       refine wpAnyH_ready (rs := [3, 4]) (by kernel_rfl) (by simp) ?_
       refine (AllReadyH.cons (o := ⟨some 39, _, _, _, _, _⟩) rfl (fun K hK => ?_) (AllReadyH.cons (o := ⟨none, _, _, _, _, _⟩) rfl (fun K hK => ?_) AllReadyH.nil))
       · go_simp
         refine gen_KA (fun V => Keeps (fun _ => False) v2 V ∧ Blk V v2.heap.size 9 [.string s]) ⟨(Keeps.refl _ _).alloc _, Blk.new _ _ _⟩ ?_
         rintro v2_3 ⟨k3, b3⟩
         have lo3 := h_.size
         have hl3 : b8 < v2.heap.size := hb8.lt
         replace hb8 := k3.blk hb8 fun h => h
         have hp3 := h_.trans k3 fun _ _ h => h.elim
         refine hK.out _ _ hp3 (fun h_ => ?_)
         clear hK K
         try simp only [pu]
         refine rH 4 none fun K hK => ?_
         skip
         refine step_store_whole rfl 31 (.tmp 8) (.tmp 36) rfl vx rfl rfl hb8 (by rw [HH.out.ax.len]; rfl) HSX.out HH.out.ax.one ?_
         refine gen_KA (fun V => Keeps (fun i => i = b8) v2_3 V ∧ Blk V b8 31 vx) ⟨setRow_keep _ _ _, hb8.setRow _⟩ ?_
         rintro v2_3_4 ⟨k4, b8x⟩
         clear hb8
         have hb8 := b8x
         replace b3 := k4.blk b3 fun e => by omega
         have hp4 := h_.trans k4 fun _ _ h => h
         refine hK.out _ _ hp4 (fun h_ => ?_)
         clear hK K
         try simp only [pu]
         refine tI 5 9 h_ ?_
         try simp only [pu]
         refine wpAnyH_done (by kernel_rfl) ?_ _
         have HF := H_ (rth_said HH.out H4.out h_ b3 lo3)
         go_wp2
         rw [HR.out]
         refine bodyPost_ret (results_blk_t1 rfl _ _ rfl hb8 Tryz.underlying31 rfl HSX.out) rfl ?_
         exact HF.out
       · skip
         refine step_store_whole rfl 31 (.tmp 8) (.tmp 36) rfl vx rfl rfl hb8 (by rw [HH.out.ax.len]; rfl) HSX.out HH.out.ax.one ?_
         refine gen_KA (fun V => Keeps (fun i => i = b8) v2 V ∧ Blk V b8 31 vx) ⟨setRow_keep _ _ _, hb8.setRow _⟩ ?_
         rintro v2_4 ⟨k4, b8x⟩
         clear hb8
         have hb8 := b8x
         have hp4 := h_.trans k4 fun _ _ h => h
         refine hK.out _ _ hp4 (fun h_ => ?_)
         clear hK K
         try simp only [pu]
         refine rH 3 (some 39) fun K hK => ?_
         go_simp
         refine gen_KA (fun V => Keeps (fun _ => False) v2_4 V ∧ Blk V v2_4.heap.size 9 [.string s]) ⟨(Keeps.refl _ _).alloc _, Blk.new _ _ _⟩ ?_
         rintro v2_4_3 ⟨k3, b3⟩
         have lo3 := h_.size
         have hl3 : b8 < v2_4.heap.size := hb8.lt
         replace hb8 := k3.blk hb8 fun h => h
         have hp3 := h_.trans k3 fun _ _ h => h.elim
         refine hK.out _ _ hp3 (fun h_ => ?_)
         clear hK K
         try simp only [pu]
         refine tI 5 9 h_ ?_
         try simp only [pu]
         refine wpAnyH_done (by kernel_rfl) ?_ _
         have HF := H_ (rth_said HH.out H4.out h_ b3 lo3)
         go_wp2
         rw [HR.out]
         refine bodyPost_ret (results_blk_t1 rfl _ _ rfl hb8 Tryz.underlying31 rfl HSX.out) rfl ?_
         exact HF.out
       )
end Go.Proofs.YtdmcioghdindfaaGreatDoor
namespace Go.Proofs.YtdmcioghdindfaaGreatDoor
open Go Go.RowKit Go.Aff Go.Json
section
variable {P : Program}
theorem step_append_mineG {Q : Exit → Act → World → Prop} {K : Act → World → Prop} {ops : Array Oper} {a : Act} {w0 w : World} {o : Oper} (hgd : o.guard = none) (s x : Operand) (t : TypeId)
  (ho : o.op = .call { callee := .builtin .append, args := #[s, x], argTypes := #[t, t] })
  (e : TypeId) (z : Value) (sz bytes : Nat) (ht : P.underlying t = some (.slice e)) (hinfo : (P.info? e).map (fun i => (i.zero, i.size, i.bytes)) = some (some z, sz, bytes)) (hzs : z.cells.size = sz) (hpos : 0 < sz)
  {A0 : Option Addr} {n c0 : Nat} {xs : List Value} (hs : a.eval s = .slice A0 n c0) (hT : MineS sz w0 w e A0 n c0 xs)
  (A : Option Addr) (m c : Nat) (news : List Value) (hx : a.eval x = .slice A m c) (hr : RdS sz w A m news) (h1 : ∀ u ∈ news, u.oneCell' = true)
  (h63 : n + m ≤ maxLen) (hbytes : (n + m) * bytes ≤ 140737488355328) (k : Nat) (hk : n + m = k) (zs : List Value) (hz : xs ++ news = zs)
  (h : ∀ A' c' w', MineS sz w0 w' e A' k c' zs → Keeps (fun i => (Value.slice A0 n c0).ownBlock = some i) w w' → ((Value.slice A' k c').ownBlock = (Value.slice A0 n c0).ownBlock ∨ (Value.slice A' k c').ownBlock = some w.heap.size) → K (a.put o.dst (.slice A' k c')) w') :
  if Region.wanted o (yielded ops a.tmps) = true then Oper.wp P o a w K Q else K (a.put o.dst undef) w := by
 subst hk hz
 rcases A with _ | ad
 ·have hm : m = 0 := by
   rcases Nat.eq_zero_or_pos m with h0 | h0
   ·exact h0
   obtain ⟨g, o, e1, _⟩ := hr.2 h0
   cases e1
  subst hm
  have hn : news = [] := List.eq_nil_of_length_eq_zero (by rw [hr.1]; simp)
  subst hn
  obtain ⟨i, hi, hzi⟩ := Option.map_eq_some_iff.1 hinfo
  have hw : Region.wanted o (yielded ops a.tmps) = true := by simp [Region.wanted, hgd]
  rw [if_pos hw]
  have hrun : (Builtin.append_ #[t, t] o.type #[.slice A0 n c0, .slice none 0 c]).run P w = .ok (.slice A0 n c0) w := by
   rcases hT.1.2 with ⟨hv, hn0⟩ | ⟨g, cap, cur, hv, _, _, hnc, _⟩
   ·injection hv with e1 e2 e3
    subst e1 e2 e3
    simp [Builtin.append_, run_underlying ht, sizeOf, typeInfo, hi, Builtin.lenOf, Builtin.firstCells]
   injection hv with e1 e2 e3
   subst e1 e3
   simp [Builtin.append_, run_underlying ht, sizeOf, typeInfo, hi, Builtin.lenOf, Builtin.firstCells, hnc, storeCells]
  unfold Oper.wp execOp
  simp only [ho, resolve, invoke, builtin, Sem.run_bind, Sem.run_pure, Result.andThen_ok, List.map_toArray, List.map_cons, List.map_nil, hs, hx, hrun]
  exact h A0 c0 w (by simpa using hT) (Keeps.refl _ _) (.inl rfl)
 refine step_append_own hgd s x t ho e z sz bytes ht hinfo hzs hpos A0 n c0 xs hs hT.1 ad m c news hx hr.1 (fun j u hu => ?_) h1 h63 hbytes fun A' c' w' k1 k2 k3 => h A' c' w' (hT.grown k1 k2 k3) ((Keeps.of_grown k2).mono fun i _ e => e) k3
 have hj : j < news.length := (List.getElem?_eq_some_iff.1 hu).1
 have hm0 : 0 < m := by
  rcases Nat.eq_zero_or_pos m with h0 | h0
  ·subst h0; rw [hr.1] at hj; simp at hj
  exact h0
 obtain ⟨g, o, e1, hc⟩ := hr.2 hm0
 injection e1 with e1
 subst e1
 have hj2 : j < m * sz := by rw [← hr.1]; exact hj
 have := hc j hj2
 rw [hu] at this
 rw [add_at]
 exact this
end
theorem nr {p : Prop} {a b : Nat} (h : p ∨ a = b) (n : a ≠ b := by decide) : p := h.resolve_right n
def OffP (D : Nat → Prop) (wr : World) (d31 : Prop) (v14 : Value) (i : Nat) : Prop := (D i ∨ wr.heap.size ≤ i) ∧ (d31 → v14 ≠ .pointer (some ⟨i, 0, none⟩))
structure ThJ (D : Nat → Prop) (wr : World) (oo ox oy : Option JV) (wn : Nat) (ws : List Value) (key : ByteArray) (r : Option JV × List ByteArray) (done : Nat → Prop) (v58 v64 v70 v71 v73 v78 v79 v80 v52 v81 v82 v14 v15 : Value) (w : World) : Prop where
 keep : Keeps (fun _ => False) wr w
 c5 : done 5 → ∃ X : List Value, v58 = .agg X.toArray ∧ ORAt D w X oo
 c11 : done 11 → ∃ X : List Value, v64 = .agg X.toArray ∧ ORAt D w X ox
 c17 : done 17 → ∃ X : List Value, v70 = .agg X.toArray ∧ ORAt D w X oy
 m18 : done 18 → ¬ done 20 → ∃ A, v71 = .slice A 0 0 ∧ MineS 1 wr w 9 A 0 0 []
 m20 : done 20 → ¬ done 26 → ∃ A c, v73 = .slice A wn c ∧ MineS 1 wr w 9 A wn c ws
 b25 : done 25 → ¬ done 26 → ∃ b, v78 = .slice (some ⟨b, 0, none⟩) 1 1 ∧ Blk w b 9 [.string key]
 ne : done 25 → ¬ done 26 → (done 18 → ¬ done 20 → v71.ownBlock ≠ v78.ownBlock) ∧ (done 20 → v73.ownBlock ≠ v78.ownBlock)
 r26 : done 26 → ∃ A c, v79 = .slice A (wn + 1) c ∧ Rd w A (wn + 1) (ws ++ [.string key]) ∧ InB (fun i => wr.heap.size ≤ i) A (wn + 1) ∧ Out (fun i => done 31 ∧ v14 = .pointer (some ⟨i, 0, none⟩)) A (wn + 1)
 p31 : done 31 → ∃ p zs, v14 = .pointer (some ⟨p, 0, none⟩) ∧ Blk w p 31 zs ∧ wr.heap.size ≤ p ∧ zs.length = 6 ∧ (done 32 → v81 = .agg zs.toArray)
 c27 : done 27 → ∃ (V : List Value) (A : Option Addr) (n c : Nat), v80 = .tuple #[.agg V.toArray, .slice A n c] ∧ ORAt (OffP D wr (done 31) v14) w V r.1 ∧ Rd w A n (r.2.map .string) ∧ r.2.length = n ∧ InB (OffP D wr (done 31) v14) A n
 e28 : done 28 → done 27 ∧ v52 = v80
 e29 : done 29 → ∀ V s, v52 = .tuple #[V, s] → v81 = V
 e30 : done 30 → ∀ V s, v52 = .tuple #[V, s] → v82 = s
 e33 : done 33 → v15 = v82
 o29 : done 29 → done 28
 p30 : done 30 → done 28
 o32 : done 32 → done 29 ∧ done 31
section
variable {D : Nat → Prop} {wr w w' : World} {oo ox oy : Option JV} {wn : Nat} {ws : List Value} {key : ByteArray} {r : Option JV × List ByteArray} {done : Nat → Prop} {v58 v64 v70 v71 v73 v78 v79 v80 v52 v81 v82 v14 v15 : Value}
theorem ThJ.start (k : Keeps (fun _ => False) wr w) (h : ∀ k ∈ [5, 11, 17, 18, 20, 25, 26, 27, 28, 29, 30, 31, 32, 33], ¬ done k) : ThJ D wr oo ox oy wn ws key r done v58 v64 v70 v71 v73 v78 v79 v80 v52 v81 v82 v14 v15 w :=
 ⟨k, fun e => absurd e (h _ (by decide)), fun e => absurd e (h _ (by decide)), fun e => absurd e (h _ (by decide)), fun e => absurd e (h _ (by decide)), fun e => absurd e (h _ (by decide)), fun e => absurd e (h _ (by decide)), fun e => absurd e (h _ (by decide)), fun e => absurd e (h _ (by decide)), fun e => absurd e (h _ (by decide)), fun e => absurd e (h _ (by decide)), fun e => absurd e (h _ (by decide)), fun e => absurd e (h _ (by decide)), fun e => absurd e (h _ (by decide)), fun e => absurd e (h _ (by decide)), fun e => absurd e (h _ (by decide)), fun e => absurd e (h _ (by decide)), fun e => absurd e (h _ (by decide))⟩
theorem ThJ.stay (h : ThJ D wr oo ox oy wn ws key r done v58 v64 v70 v71 v73 v78 v79 v80 v52 v81 v82 v14 v15 w) (k : Keeps (fun _ => False) w w') : ThJ D wr oo ox oy wn ws key r done v58 v64 v70 v71 v73 v78 v79 v80 v52 v81 v82 v14 v15 w' where
 keep := h.keep.trans k fun _ _ h => h
 c5 e := (h.c5 e).imp fun X hX => ⟨hX.1, hX.2.stay k⟩
 c11 e := (h.c11 e).imp fun X hX => ⟨hX.1, hX.2.stay k⟩
 c17 e := (h.c17 e).imp fun X hX => ⟨hX.1, hX.2.stay k⟩
 m18 e n := (h.m18 e n).imp fun A hA => ⟨hA.1, hA.2.keep k⟩
 m20 e n := (h.m20 e n).imp fun A hA => hA.imp fun c hc => ⟨hc.1, hc.2.keep k⟩
 b25 e n := (h.b25 e n).imp fun b hb => ⟨hb.1, k.blk hb.2 fun h => h⟩
 ne := h.ne
 r26 e := (h.r26 e).imp fun A hA => hA.imp fun c hc => ⟨hc.1, hc.2.1.keep k (fun _ _ _ h => h), hc.2.2⟩
 p31 e := (h.p31 e).imp fun p hp => hp.imp fun zs hz => ⟨hz.1, k.blk hz.2.1 fun h => h, hz.2.2⟩
 c27 e := by
  obtain ⟨V, A, n, c, h1, h2, h3, h4⟩ := h.c27 e
  exact ⟨V, A, n, c, h1, h2.stay k, h3.keep k (fun _ _ _ h => h), h4⟩
 e28 := h.e28
 e29 := h.e29
 e30 := h.e30
 e33 := h.e33
 o29 := h.o29
 p30 := h.p30
 o32 := h.o32
theorem ThJ.got5 (h : ThJ D wr oo ox oy wn ws key r done v58 v64 v70 v71 v73 v78 v79 v80 v52 v81 v82 v14 v15 w) (k : Keeps (fun _ => False) w w') {X : List Value} (hX : ORAt D w' X oo) : ThJ D wr oo ox oy wn ws key r (fun q => done q ∨ q = 5) (.agg X.toArray) v64 v70 v71 v73 v78 v79 v80 v52 v81 v82 v14 v15 w' := by
 have h' := h.stay k
 exact {
  keep := h'.keep
  c5 := fun _ => ⟨X, rfl, hX⟩
  c11 := fun e => h'.c11 (nr e)
  c17 := fun e => h'.c17 (nr e)
  m18 := fun e n => h'.m18 (nr e) fun x => n (.inl x)
  m20 := fun e n => h'.m20 (nr e) fun x => n (.inl x)
  b25 := fun e n => h'.b25 (nr e) fun x => n (.inl x)
  ne := fun e n => ⟨fun x y => (h'.ne (nr e) fun x => n (.inl x)).1 (nr x) fun z => y (.inl z), fun x => (h'.ne (nr e) fun x => n (.inl x)).2 (nr x)⟩
  r26 := fun e => (h'.r26 (nr e)).imp fun A hA => hA.imp fun c hc => ⟨hc.1, hc.2.1, hc.2.2.1, fun q a ea x => hc.2.2.2 q a ea ⟨nr x.1, x.2⟩⟩
  p31 := fun e => (h'.p31 (nr e)).imp fun p hp => hp.imp fun zs hz => ⟨hz.1, hz.2.1, hz.2.2.1, hz.2.2.2.1, fun x => hz.2.2.2.2 (nr x)⟩
  c27 := fun e => by
   obtain ⟨V, A, n, c, h1, h2, h3, h4, h5⟩ := h'.c27 (nr e)
   exact ⟨V, A, n, c, h1, h2.mono fun q hq _ => ⟨hq.1, fun x => hq.2 (nr x)⟩, h3, h4, h5.mono fun q hq => ⟨hq.1, fun x => hq.2 (nr x)⟩⟩
  e28 := fun e => ⟨.inl (h'.e28 (nr e)).1, (h'.e28 (nr e)).2⟩
  e29 := fun e => h'.e29 (nr e)
  e30 := fun e => h'.e30 (nr e)
  e33 := fun e => h'.e33 (nr e)
  o29 := fun e => .inl (h'.o29 (nr e))
  p30 := fun e => .inl (h'.p30 (nr e))
  o32 := fun e => ⟨.inl (h'.o32 (nr e)).1, .inl (h'.o32 (nr e)).2⟩
 }
theorem ThJ.got11 (h : ThJ D wr oo ox oy wn ws key r done v58 v64 v70 v71 v73 v78 v79 v80 v52 v81 v82 v14 v15 w) (k : Keeps (fun _ => False) w w') {X : List Value} (hX : ORAt D w' X ox) : ThJ D wr oo ox oy wn ws key r (fun q => done q ∨ q = 11) v58 (.agg X.toArray) v70 v71 v73 v78 v79 v80 v52 v81 v82 v14 v15 w' := by
 have h' := h.stay k
 exact {
  keep := h'.keep
  c5 := fun e => h'.c5 (nr e)
  c11 := fun _ => ⟨X, rfl, hX⟩
  c17 := fun e => h'.c17 (nr e)
  m18 := fun e n => h'.m18 (nr e) fun x => n (.inl x)
  m20 := fun e n => h'.m20 (nr e) fun x => n (.inl x)
  b25 := fun e n => h'.b25 (nr e) fun x => n (.inl x)
  ne := fun e n => ⟨fun x y => (h'.ne (nr e) fun x => n (.inl x)).1 (nr x) fun z => y (.inl z), fun x => (h'.ne (nr e) fun x => n (.inl x)).2 (nr x)⟩
  r26 := fun e => (h'.r26 (nr e)).imp fun A hA => hA.imp fun c hc => ⟨hc.1, hc.2.1, hc.2.2.1, fun q a ea x => hc.2.2.2 q a ea ⟨nr x.1, x.2⟩⟩
  p31 := fun e => (h'.p31 (nr e)).imp fun p hp => hp.imp fun zs hz => ⟨hz.1, hz.2.1, hz.2.2.1, hz.2.2.2.1, fun x => hz.2.2.2.2 (nr x)⟩
  c27 := fun e => by
   obtain ⟨V, A, n, c, h1, h2, h3, h4, h5⟩ := h'.c27 (nr e)
   exact ⟨V, A, n, c, h1, h2.mono fun q hq _ => ⟨hq.1, fun x => hq.2 (nr x)⟩, h3, h4, h5.mono fun q hq => ⟨hq.1, fun x => hq.2 (nr x)⟩⟩
  e28 := fun e => ⟨.inl (h'.e28 (nr e)).1, (h'.e28 (nr e)).2⟩
  e29 := fun e => h'.e29 (nr e)
  e30 := fun e => h'.e30 (nr e)
  e33 := fun e => h'.e33 (nr e)
  o29 := fun e => .inl (h'.o29 (nr e))
  p30 := fun e => .inl (h'.p30 (nr e))
  o32 := fun e => ⟨.inl (h'.o32 (nr e)).1, .inl (h'.o32 (nr e)).2⟩
 }
theorem ThJ.got17 (h : ThJ D wr oo ox oy wn ws key r done v58 v64 v70 v71 v73 v78 v79 v80 v52 v81 v82 v14 v15 w) (k : Keeps (fun _ => False) w w') {X : List Value} (hX : ORAt D w' X oy) : ThJ D wr oo ox oy wn ws key r (fun q => done q ∨ q = 17) v58 v64 (.agg X.toArray) v71 v73 v78 v79 v80 v52 v81 v82 v14 v15 w' := by
 have h' := h.stay k
 exact {
  keep := h'.keep
  c5 := fun e => h'.c5 (nr e)
  c11 := fun e => h'.c11 (nr e)
  c17 := fun _ => ⟨X, rfl, hX⟩
  m18 := fun e n => h'.m18 (nr e) fun x => n (.inl x)
  m20 := fun e n => h'.m20 (nr e) fun x => n (.inl x)
  b25 := fun e n => h'.b25 (nr e) fun x => n (.inl x)
  ne := fun e n => ⟨fun x y => (h'.ne (nr e) fun x => n (.inl x)).1 (nr x) fun z => y (.inl z), fun x => (h'.ne (nr e) fun x => n (.inl x)).2 (nr x)⟩
  r26 := fun e => (h'.r26 (nr e)).imp fun A hA => hA.imp fun c hc => ⟨hc.1, hc.2.1, hc.2.2.1, fun q a ea x => hc.2.2.2 q a ea ⟨nr x.1, x.2⟩⟩
  p31 := fun e => (h'.p31 (nr e)).imp fun p hp => hp.imp fun zs hz => ⟨hz.1, hz.2.1, hz.2.2.1, hz.2.2.2.1, fun x => hz.2.2.2.2 (nr x)⟩
  c27 := fun e => by
   obtain ⟨V, A, n, c, h1, h2, h3, h4, h5⟩ := h'.c27 (nr e)
   exact ⟨V, A, n, c, h1, h2.mono fun q hq _ => ⟨hq.1, fun x => hq.2 (nr x)⟩, h3, h4, h5.mono fun q hq => ⟨hq.1, fun x => hq.2 (nr x)⟩⟩
  e28 := fun e => ⟨.inl (h'.e28 (nr e)).1, (h'.e28 (nr e)).2⟩
  e29 := fun e => h'.e29 (nr e)
  e30 := fun e => h'.e30 (nr e)
  e33 := fun e => h'.e33 (nr e)
  o29 := fun e => .inl (h'.o29 (nr e))
  p30 := fun e => .inl (h'.p30 (nr e))
  o32 := fun e => ⟨.inl (h'.o32 (nr e)).1, .inl (h'.o32 (nr e)).2⟩
 }
theorem ThJ.made18 (h : ThJ D wr oo ox oy wn ws key r done v58 v64 v70 v71 v73 v78 v79 v80 v52 v81 v82 v14 v15 w) (hn : ¬ done 20) (hw : w' = w.alloc (.cells #[] 9)) : ThJ D wr oo ox oy wn ws key r (fun q => done q ∨ q = 18) v58 v64 v70 (.slice (some ⟨w.heap.size, 0, none⟩) 0 0) v73 v78 v79 v80 v52 v81 v82 v14 v15 w' := by
 have h' := h.stay (w' := w') (by rw [hw]; exact (Keeps.refl _ w).alloc _)
 exact {
  keep := h'.keep
  c5 := fun e => h'.c5 (nr e)
  c11 := fun e => h'.c11 (nr e)
  c17 := fun e => h'.c17 (nr e)
  m18 := fun _ _ => ⟨_, rfl, hw ▸ MineS.none0 _ _ _ _ h.keep⟩
  m20 := fun e n => h'.m20 (nr e) fun x => n (.inl x)
  b25 := fun e n => h'.b25 (nr e) fun x => n (.inl x)
  ne := fun e n => ⟨fun _ _ x => by
   obtain ⟨b, h1, h2⟩ := h.b25 (nr e) fun x => n (.inl x)
   rw [h1] at x
   have x' : some w.heap.size = some b := x
   injection x' with x'
   have := h2.lt
   omega, fun x => absurd (nr x) hn⟩
  r26 := fun e => (h'.r26 (nr e)).imp fun A hA => hA.imp fun c hc => ⟨hc.1, hc.2.1, hc.2.2.1, fun q a ea x => hc.2.2.2 q a ea ⟨nr x.1, x.2⟩⟩
  p31 := fun e => (h'.p31 (nr e)).imp fun p hp => hp.imp fun zs hz => ⟨hz.1, hz.2.1, hz.2.2.1, hz.2.2.2.1, fun x => hz.2.2.2.2 (nr x)⟩
  c27 := fun e => by
   obtain ⟨V, A, n, c, h1, h2, h3, h4, h5⟩ := h'.c27 (nr e)
   exact ⟨V, A, n, c, h1, h2.mono fun q hq _ => ⟨hq.1, fun x => hq.2 (nr x)⟩, h3, h4, h5.mono fun q hq => ⟨hq.1, fun x => hq.2 (nr x)⟩⟩
  e28 := fun e => ⟨.inl (h'.e28 (nr e)).1, (h'.e28 (nr e)).2⟩
  e29 := fun e => h'.e29 (nr e)
  e30 := fun e => h'.e30 (nr e)
  e33 := fun e => h'.e33 (nr e)
  o29 := fun e => .inl (h'.o29 (nr e))
  p30 := fun e => .inl (h'.p30 (nr e))
  o32 := fun e => ⟨.inl (h'.o32 (nr e)).1, .inl (h'.o32 (nr e)).2⟩
 }
theorem ThJ.made25 (h : ThJ D wr oo ox oy wn ws key r done v58 v64 v70 v71 v73 v78 v79 v80 v52 v81 v82 v14 v15 w) (hn : ¬ done 26) (hw : w' = w.alloc (.cells #[.string key] 9)) : ThJ D wr oo ox oy wn ws key r (fun q => done q ∨ q = 25) v58 v64 v70 v71 v73 (.slice (some ⟨w.heap.size, 0, none⟩) 1 1) v79 v80 v52 v81 v82 v14 v15 w' := by
 have h' := h.stay (w' := w') (by rw [hw]; exact (Keeps.refl _ w).alloc _)
 exact {
  keep := h'.keep
  c5 := fun e => h'.c5 (nr e)
  c11 := fun e => h'.c11 (nr e)
  c17 := fun e => h'.c17 (nr e)
  m18 := fun e n => h'.m18 (nr e) fun x => n (.inl x)
  m20 := fun e n => h'.m20 (nr e) fun x => n (.inl x)
  b25 := fun _ _ => ⟨_, rfl, hw ▸ Blk.new _ _ _⟩
  ne := fun _ _ => ⟨fun x y z => by
   obtain ⟨A, h1, h2⟩ := h.m18 (nr x) fun x => y (.inl x)
   rw [h1] at z
   have z' : (Value.slice A 0 0).ownBlock = some w.heap.size := z
   have := h2.own_lt z'
   omega, fun x z => by
   obtain ⟨A, c, h1, h2⟩ := h.m20 (nr x) hn
   rw [h1] at z
   have z' : (Value.slice A wn c).ownBlock = some w.heap.size := z
   have := h2.own_lt z'
   omega⟩
  r26 := fun e => (h'.r26 (nr e)).imp fun A hA => hA.imp fun c hc => ⟨hc.1, hc.2.1, hc.2.2.1, fun q a ea x => hc.2.2.2 q a ea ⟨nr x.1, x.2⟩⟩
  p31 := fun e => (h'.p31 (nr e)).imp fun p hp => hp.imp fun zs hz => ⟨hz.1, hz.2.1, hz.2.2.1, hz.2.2.2.1, fun x => hz.2.2.2.2 (nr x)⟩
  c27 := fun e => by
   obtain ⟨V, A, n, c, h1, h2, h3, h4, h5⟩ := h'.c27 (nr e)
   exact ⟨V, A, n, c, h1, h2.mono fun q hq _ => ⟨hq.1, fun x => hq.2 (nr x)⟩, h3, h4, h5.mono fun q hq => ⟨hq.1, fun x => hq.2 (nr x)⟩⟩
  e28 := fun e => ⟨.inl (h'.e28 (nr e)).1, (h'.e28 (nr e)).2⟩
  e29 := fun e => h'.e29 (nr e)
  e30 := fun e => h'.e30 (nr e)
  e33 := fun e => h'.e33 (nr e)
  o29 := fun e => .inl (h'.o29 (nr e))
  p30 := fun e => .inl (h'.p30 (nr e))
  o32 := fun e => ⟨.inl (h'.o32 (nr e)).1, .inl (h'.o32 (nr e)).2⟩
 }
theorem ThJ.made31 (h : ThJ D wr oo ox oy wn ws key r done v58 v64 v70 v71 v73 v78 v79 v80 v52 v81 v82 v14 v15 w) {zs : List Value} (hz : zs.length = 6) (hn : ¬ done 31) (hw : w' = w.alloc (.cells zs.toArray 31)) : ThJ D wr oo ox oy wn ws key r (fun q => done q ∨ q = 31) v58 v64 v70 v71 v73 v78 v79 v80 v52 v81 v82 (.pointer (some ⟨w.heap.size, 0, none⟩)) v15 w' := by
 have h' := h.stay (w' := w') (by rw [hw]; exact (Keeps.refl _ w).alloc _)
 exact {
  keep := h'.keep
  c5 := fun e => h'.c5 (nr e)
  c11 := fun e => h'.c11 (nr e)
  c17 := fun e => h'.c17 (nr e)
  m18 := fun e n => h'.m18 (nr e) fun x => n (.inl x)
  m20 := fun e n => h'.m20 (nr e) fun x => n (.inl x)
  b25 := fun e n => h'.b25 (nr e) fun x => n (.inl x)
  ne := fun e n => ⟨fun x y => (h'.ne (nr e) fun x => n (.inl x)).1 (nr x) fun z => y (.inl z), fun x => (h'.ne (nr e) fun x => n (.inl x)).2 (nr x)⟩
  r26 := fun e => by
   obtain ⟨A, c, h1, h2, h3, h4⟩ := h.r26 (nr e)
   obtain ⟨A', c', h1', h2', h3', h4'⟩ := h'.r26 (nr e)
   refine ⟨A', c', h1', h2', h3', fun q a ea x => ?_⟩
   have e9 : A = A' := by rw [h1] at h1'; injection h1'
   subst e9
   obtain ⟨g, o1, e3, hc⟩ := h2.2 q
   rw [ea] at e3
   injection e3 with e3
   have h5 := hc 0 q
   rw [List.getElem?_eq_getElem (by rw [h2.1]; exact q)] at h5
   have h6 := World.block_lt_of_cell? w _ h5
   have x2 := x.2
   injection x2 with x2
   injection x2 with x2
   injection x2 with x2
   rw [e3] at x2
   have h6' : g < w.heap.size := h6
   have x2' : w.heap.size = g := x2
   omega
  p31 := fun _ => ⟨_, zs, rfl, hw ▸ Blk.new _ _ _, h.keep.size, hz, fun x => absurd (h.o32 (nr x)).2 hn⟩
  c27 := fun e => by
   obtain ⟨V, A, n, c, h1, h2, h3, h4, h5⟩ := h.c27 (nr e)
   have hk : Keeps (fun _ => False) w w' := by rw [hw]; exact (Keeps.refl _ w).alloc _
   have hne : ∀ q, q < w.heap.size → Value.pointer (some ⟨w.heap.size, 0, none⟩) ≠ .pointer (some ⟨q, 0, none⟩) := fun q hq x => by
    injection x with x
    injection x with x
    injection x with x
    omega
   refine ⟨V, A, n, c, h1, (h2.mono fun q hq hlt => ⟨hq.1, fun _ => hne q hlt⟩).stay hk, h3.keep hk (fun _ _ _ h => h), h4, (Rd.inB h3 h5 fun q hq hlt => ⟨hq.1, fun _ => hne q hlt⟩)⟩
  e28 := fun e => ⟨.inl (h'.e28 (nr e)).1, (h'.e28 (nr e)).2⟩
  e29 := fun e => h'.e29 (nr e)
  e30 := fun e => h'.e30 (nr e)
  e33 := fun e => h'.e33 (nr e)
  o29 := fun e => .inl (h'.o29 (nr e))
  p30 := fun e => .inl (h'.p30 (nr e))
  o32 := fun e => ⟨.inl (h'.o32 (nr e)).1, .inl (h'.o32 (nr e)).2⟩
 }
theorem ThJ.app20 (h : ThJ D wr oo ox oy wn ws key r done v58 v64 v70 v71 v73 v78 v79 v80 v52 v81 v82 v14 v15 w) (hlow : ∀ q, D q → q < wr.heap.size) (d18 : done 18) (n20 : ¬ done 20) (n26 : ¬ done 26) (n27 : ¬ done 27) {A0 : Option Addr} (e71 : v71 = .slice A0 0 0) (hO : MineS 1 wr w 9 A0 0 0 []) {A' : Option Addr} {c' : Nat} (hM : MineS 1 wr w' 9 A' wn c' ws) (k : Keeps (fun i => (Value.slice A0 0 0).ownBlock = some i) w w') (hb : (Value.slice A' wn c').ownBlock = (Value.slice A0 0 0).ownBlock ∨ (Value.slice A' wn c').ownBlock = some w.heap.size) : ThJ D wr oo ox oy wn ws key r (fun q => done q ∨ q = 20) v58 v64 v70 v71 (.slice A' wn c') v78 v79 v80 v52 v81 v82 v14 v15 w' := by
 have hkF : Keeps (fun _ => False) wr w' := hM.2.1
 have hD : ∀ {Y : Option JV} {X : List Value}, ORAt D w X Y → ORAt D w' X Y := fun hX => hX.keep k fun q hq e => by
  have h1 := hlow q hq
  have h2 := hO.2.2 q e
  omega
 have hp31 : done 31 → ∃ p zs, v14 = .pointer (some ⟨p, 0, none⟩) ∧ Blk w' p 31 zs ∧ wr.heap.size ≤ p ∧ zs.length = 6 ∧ (done 32 → v81 = .agg zs.toArray) := fun e => by
  obtain ⟨p, zs, e1, hb, e2⟩ := h.p31 e
  exact ⟨p, zs, e1, k.blk hb (own_blk hO.1 hb (by decide)), e2⟩
 exact {
  keep := hkF
  c5 := fun e => (h.c5 (nr e)).imp fun X hX => ⟨hX.1, hD hX.2⟩
  c11 := fun e => (h.c11 (nr e)).imp fun X hX => ⟨hX.1, hD hX.2⟩
  c17 := fun e => (h.c17 (nr e)).imp fun X hX => ⟨hX.1, hD hX.2⟩
  m18 := fun _ n => absurd (.inr rfl) n
  m20 := fun _ _ => ⟨A', c', rfl, hM⟩
  b25 := fun e n => (h.b25 (nr e) fun x => n (.inl x)).imp fun b hb => ⟨hb.1, k.blk hb.2 fun e2 => (h.ne (nr e) fun x => n (.inl x)).1 d18 n20 (by rw [e71, hb.1]; exact e2)⟩
  ne := fun e n => ⟨fun _ y => absurd (.inr rfl) y, fun _ x => by
   obtain ⟨b, h1, h2⟩ := h.b25 (nr e) fun x => n (.inl x)
   rcases hb with h3 | h3
   ·exact (h.ne (nr e) fun x => n (.inl x)).1 d18 n20 (by rw [e71, ← h3]; exact x)
   rw [h3, h1] at x
   have x' : some w.heap.size = some b := x
   injection x' with x'
   have := h2.lt
   omega⟩
  r26 := fun e => absurd (nr e) n26
  p31 := fun e => (hp31 (nr e)).imp fun p hp => hp.imp fun zs hz => ⟨hz.1, hz.2.1, hz.2.2.1, hz.2.2.2.1, fun x => hz.2.2.2.2 (nr x)⟩
  c27 := fun e => absurd (nr e) n27
  e28 := fun e => absurd (h.e28 (nr e)).1 n27
  e29 := fun e => absurd (h.e28 (h.o29 (nr e))).1 n27
  e30 := fun e => h.e30 (nr e)
  e33 := fun e => h.e33 (nr e)
  o29 := fun e => .inl (h.o29 (nr e))
  p30 := fun e => .inl (h.p30 (nr e))
  o32 := fun e => ⟨.inl (h.o32 (nr e)).1, .inl (h.o32 (nr e)).2⟩
 }
theorem ThJ.app26 (h : ThJ D wr oo ox oy wn ws key r done v58 v64 v70 v71 v73 v78 v79 v80 v52 v81 v82 v14 v15 w) (hlow : ∀ q, D q → q < wr.heap.size) (d20 : done 20) (n27 : ¬ done 27) {A0 : Option Addr} {c0 : Nat} (hO : MineS 1 wr w 9 A0 wn c0 ws) {A' : Option Addr} {c' : Nat} (hM : MineS 1 wr w' 9 A' (wn + 1) c' (ws ++ [.string key])) (k : Keeps (fun i => (Value.slice A0 wn c0).ownBlock = some i) w w') : ThJ D wr oo ox oy wn ws key r (fun q => done q ∨ q = 26) v58 v64 v70 v71 v73 v78 (.slice A' (wn + 1) c') v80 v52 v81 v82 v14 v15 w' := by
 have hkF : Keeps (fun _ => False) wr w' := hM.2.1
 have hD : ∀ {Y : Option JV} {X : List Value}, ORAt D w X Y → ORAt D w' X Y := fun hX => hX.keep k fun q hq e => by
  have h1 := hlow q hq
  have h2 := hO.2.2 q e
  omega
 have hp31 : done 31 → ∃ p zs, v14 = .pointer (some ⟨p, 0, none⟩) ∧ Blk w' p 31 zs ∧ wr.heap.size ≤ p ∧ zs.length = 6 ∧ (done 32 → v81 = .agg zs.toArray) := fun e => by
  obtain ⟨p, zs, e1, hb, e2⟩ := h.p31 e
  exact ⟨p, zs, e1, k.blk hb (own_blk hO.1 hb (by decide)), e2⟩
 exact {
  keep := hkF
  c5 := fun e => (h.c5 (nr e)).imp fun X hX => ⟨hX.1, hD hX.2⟩
  c11 := fun e => (h.c11 (nr e)).imp fun X hX => ⟨hX.1, hD hX.2⟩
  c17 := fun e => (h.c17 (nr e)).imp fun X hX => ⟨hX.1, hD hX.2⟩
  m18 := fun e n => absurd d20 fun x => n (.inl x)
  m20 := fun _ n => absurd (.inr rfl) n
  b25 := fun _ n => absurd (.inr rfl) n
  ne := fun _ n => absurd (.inr rfl) n
  r26 := fun _ => ⟨A', c', rfl, MineS.rd hM, MineS.inB hM, fun q a ea x => by
   obtain ⟨p, zs, e1, hb, _⟩ := hp31 (nr x.1)
   refine own_blk hM.1 hb (by decide) ?_
   rw [ea]
   have h2 := x.2
   rw [e1] at h2
   injection h2 with h2
   injection h2 with h2
   injection h2 with h2
   show some a.block = some p
   rw [h2]⟩
  p31 := fun e => (hp31 (nr e)).imp fun p hp => hp.imp fun zs hz => ⟨hz.1, hz.2.1, hz.2.2.1, hz.2.2.2.1, fun x => hz.2.2.2.2 (nr x)⟩
  c27 := fun e => absurd (nr e) n27
  e28 := fun e => absurd (h.e28 (nr e)).1 n27
  e29 := fun e => absurd (h.e28 (h.o29 (nr e))).1 n27
  e30 := fun e => h.e30 (nr e)
  e33 := fun e => h.e33 (nr e)
  o29 := fun e => .inl (h.o29 (nr e))
  p30 := fun e => .inl (h.p30 (nr e))
  o32 := fun e => ⟨.inl (h.o32 (nr e)).1, .inl (h.o32 (nr e)).2⟩
 }
theorem ThJ.call27 (h : ThJ D wr oo ox oy wn ws key r done v58 v64 v70 v71 v73 v78 v79 v80 v52 v81 v82 v14 v15 w) (n27 : ¬ done 27) (k : Keeps (fun _ => False) w w') {V : List Value} {A' : Option Addr} {n' c' : Nat} (hV : ORAt (fun i => D i ∨ w.heap.size ≤ i) w' V r.1) (hlow : ∀ q, D q → q < wr.heap.size) (hr : Rd w' A' n' (r.2.map .string)) (hl : r.2.length = n') (hi : InB (fun i => w.heap.size ≤ i) A' n') : ThJ D wr oo ox oy wn ws key r (fun q => done q ∨ q = 27) v58 v64 v70 v71 v73 v78 v79 (.tuple #[.agg V.toArray, .slice A' n' c']) v52 v81 v82 v14 v15 w' := by
 have h' := h.stay k
 have hpq : ∀ q p, v14 = .pointer (some ⟨p, 0, none⟩) → v14 = .pointer (some ⟨q, 0, none⟩) → q = p := fun q p h1 h2 => by
  rw [h1] at h2
  injection h2 with h2
  injection h2 with h2
  injection h2 with h2
  exact h2.symm
 exact {
  keep := h'.keep
  c5 := fun e => h'.c5 (nr e)
  c11 := fun e => h'.c11 (nr e)
  c17 := fun e => h'.c17 (nr e)
  m18 := fun e n => h'.m18 (nr e) fun x => n (.inl x)
  m20 := fun e n => h'.m20 (nr e) fun x => n (.inl x)
  b25 := fun e n => h'.b25 (nr e) fun x => n (.inl x)
  ne := fun e n => ⟨fun x y => (h'.ne (nr e) fun x => n (.inl x)).1 (nr x) fun z => y (.inl z), fun x => (h'.ne (nr e) fun x => n (.inl x)).2 (nr x)⟩
  r26 := fun e => (h'.r26 (nr e)).imp fun A hA => hA.imp fun c hc => ⟨hc.1, hc.2.1, hc.2.2.1, fun q a ea x => hc.2.2.2 q a ea ⟨nr x.1, x.2⟩⟩
  p31 := fun e => (h'.p31 (nr e)).imp fun p hp => hp.imp fun zs hz => ⟨hz.1, hz.2.1, hz.2.2.1, hz.2.2.2.1, fun x => hz.2.2.2.2 (nr x)⟩
  c27 := fun _ => ⟨V, A', n', c', rfl, hV.mono fun q hq hlt => hq.elim (fun hd => ⟨.inl hd, fun x y => by
   obtain ⟨p, zs, e1, _, hlo, _⟩ := h.p31 (nr x)
   have h1 := hlow q hd
   have h2 := hpq q p e1 y
   omega⟩) fun hge => ⟨.inr (by have := h.keep.size; omega), fun x y => by
   obtain ⟨p, zs, e1, hb, hlo, _⟩ := h.p31 (nr x)
   have h2 := hpq q p e1 y
   have := hb.lt
   omega⟩, hr, hl, hi.mono fun q hge => ⟨.inr (by have := h.keep.size; omega), fun x y => by
   obtain ⟨p, zs, e1, hb, hlo, _⟩ := h.p31 (nr x)
   have h2 := hpq q p e1 y
   have := hb.lt
   omega⟩⟩
  e28 := fun e => absurd (h.e28 (nr e)).1 n27
  e29 := fun e => absurd (h.e28 (h.o29 (nr e))).1 n27
  e30 := fun e => h'.e30 (nr e)
  e33 := fun e => h'.e33 (nr e)
  o29 := fun e => .inl (h'.o29 (nr e))
  p30 := fun e => .inl (h'.p30 (nr e))
  o32 := fun e => ⟨.inl (h'.o32 (nr e)).1, .inl (h'.o32 (nr e)).2⟩
 }
theorem ThJ.copy28 (h : ThJ D wr oo ox oy wn ws key r done v58 v64 v70 v71 v73 v78 v79 v80 v52 v81 v82 v14 v15 w) (d27 : done 27) (n28 : ¬ done 28) (k : Keeps (fun _ => False) w w') : ThJ D wr oo ox oy wn ws key r (fun q => done q ∨ q = 28) v58 v64 v70 v71 v73 v78 v79 v80 v80 v81 v82 v14 v15 w' := by
 have h' := h.stay k
 exact {
  keep := h'.keep
  c5 := fun e => h'.c5 (nr e)
  c11 := fun e => h'.c11 (nr e)
  c17 := fun e => h'.c17 (nr e)
  m18 := fun e n => h'.m18 (nr e) fun x => n (.inl x)
  m20 := fun e n => h'.m20 (nr e) fun x => n (.inl x)
  b25 := fun e n => h'.b25 (nr e) fun x => n (.inl x)
  ne := fun e n => ⟨fun x y => (h'.ne (nr e) fun x => n (.inl x)).1 (nr x) fun z => y (.inl z), fun x => (h'.ne (nr e) fun x => n (.inl x)).2 (nr x)⟩
  r26 := fun e => (h'.r26 (nr e)).imp fun A hA => hA.imp fun c hc => ⟨hc.1, hc.2.1, hc.2.2.1, fun q a ea x => hc.2.2.2 q a ea ⟨nr x.1, x.2⟩⟩
  p31 := fun e => (h'.p31 (nr e)).imp fun p hp => hp.imp fun zs hz => ⟨hz.1, hz.2.1, hz.2.2.1, hz.2.2.2.1, fun x => hz.2.2.2.2 (nr x)⟩
  c27 := fun e => by
   obtain ⟨V, A, n, c, h1, h2, h3, h4, h5⟩ := h'.c27 (nr e)
   exact ⟨V, A, n, c, h1, h2.mono fun q hq _ => ⟨hq.1, fun x => hq.2 (nr x)⟩, h3, h4, h5.mono fun q hq => ⟨hq.1, fun x => hq.2 (nr x)⟩⟩
  e28 := fun _ => ⟨.inl d27, rfl⟩
  e29 := fun e => absurd (h.o29 (nr e)) n28
  e30 := fun e V s hv => absurd (h.p30 (nr e)) n28
  e33 := fun e => h'.e33 (nr e)
  o29 := fun e => .inl (h'.o29 (nr e))
  p30 := fun e => .inl (h'.p30 (nr e))
  o32 := fun e => ⟨.inl (h'.o32 (nr e)).1, .inl (h'.o32 (nr e)).2⟩
 }
theorem ThJ.ext29 (h : ThJ D wr oo ox oy wn ws key r done v58 v64 v70 v71 v73 v78 v79 v80 v52 v81 v82 v14 v15 w) (d28 : done 28) (n29 : ¬ done 29) {V s : Value} (hv : v52 = .tuple #[V, s]) (k : Keeps (fun _ => False) w w') : ThJ D wr oo ox oy wn ws key r (fun q => done q ∨ q = 29) v58 v64 v70 v71 v73 v78 v79 v80 v52 V v82 v14 v15 w' := by
 have h' := h.stay k
 exact {
  keep := h'.keep
  c5 := fun e => h'.c5 (nr e)
  c11 := fun e => h'.c11 (nr e)
  c17 := fun e => h'.c17 (nr e)
  m18 := fun e n => h'.m18 (nr e) fun x => n (.inl x)
  m20 := fun e n => h'.m20 (nr e) fun x => n (.inl x)
  b25 := fun e n => h'.b25 (nr e) fun x => n (.inl x)
  ne := fun e n => ⟨fun x y => (h'.ne (nr e) fun x => n (.inl x)).1 (nr x) fun z => y (.inl z), fun x => (h'.ne (nr e) fun x => n (.inl x)).2 (nr x)⟩
  r26 := fun e => (h'.r26 (nr e)).imp fun A hA => hA.imp fun c hc => ⟨hc.1, hc.2.1, hc.2.2.1, fun q a ea x => hc.2.2.2 q a ea ⟨nr x.1, x.2⟩⟩
  p31 := fun e => (h'.p31 (nr e)).imp fun p hp => hp.imp fun zs hz => ⟨hz.1, hz.2.1, hz.2.2.1, hz.2.2.2.1, fun x => absurd (h.o32 (nr x)).1 n29⟩
  c27 := fun e => by
   obtain ⟨V, A, n, c, h1, h2, h3, h4, h5⟩ := h'.c27 (nr e)
   exact ⟨V, A, n, c, h1, h2.mono fun q hq _ => ⟨hq.1, fun x => hq.2 (nr x)⟩, h3, h4, h5.mono fun q hq => ⟨hq.1, fun x => hq.2 (nr x)⟩⟩
  e28 := fun e => ⟨.inl (h'.e28 (nr e)).1, (h'.e28 (nr e)).2⟩
  e29 := fun _ V' s' hv' => by
   rw [hv] at hv'
   injection hv' with e
   have e1 := Array.toList_inj.2 e
   injection e1
  e30 := fun e => h'.e30 (nr e)
  e33 := fun e => h'.e33 (nr e)
  o29 := fun _ => .inl d28
  p30 := fun e => .inl (h'.p30 (nr e))
  o32 := fun e => ⟨.inl (h'.o32 (nr e)).1, .inl (h'.o32 (nr e)).2⟩
 }
theorem ThJ.ext30 (h : ThJ D wr oo ox oy wn ws key r done v58 v64 v70 v71 v73 v78 v79 v80 v52 v81 v82 v14 v15 w) (d28 : done 28) (n33 : ¬ done 33) {V s : Value} (hv : v52 = .tuple #[V, s]) (k : Keeps (fun _ => False) w w') : ThJ D wr oo ox oy wn ws key r (fun q => done q ∨ q = 30) v58 v64 v70 v71 v73 v78 v79 v80 v52 v81 s v14 v15 w' := by
 have h' := h.stay k
 exact {
  keep := h'.keep
  c5 := fun e => h'.c5 (nr e)
  c11 := fun e => h'.c11 (nr e)
  c17 := fun e => h'.c17 (nr e)
  m18 := fun e n => h'.m18 (nr e) fun x => n (.inl x)
  m20 := fun e n => h'.m20 (nr e) fun x => n (.inl x)
  b25 := fun e n => h'.b25 (nr e) fun x => n (.inl x)
  ne := fun e n => ⟨fun x y => (h'.ne (nr e) fun x => n (.inl x)).1 (nr x) fun z => y (.inl z), fun x => (h'.ne (nr e) fun x => n (.inl x)).2 (nr x)⟩
  r26 := fun e => (h'.r26 (nr e)).imp fun A hA => hA.imp fun c hc => ⟨hc.1, hc.2.1, hc.2.2.1, fun q a ea x => hc.2.2.2 q a ea ⟨nr x.1, x.2⟩⟩
  p31 := fun e => (h'.p31 (nr e)).imp fun p hp => hp.imp fun zs hz => ⟨hz.1, hz.2.1, hz.2.2.1, hz.2.2.2.1, fun x => hz.2.2.2.2 (nr x)⟩
  c27 := fun e => by
   obtain ⟨V, A, n, c, h1, h2, h3, h4, h5⟩ := h'.c27 (nr e)
   exact ⟨V, A, n, c, h1, h2.mono fun q hq _ => ⟨hq.1, fun x => hq.2 (nr x)⟩, h3, h4, h5.mono fun q hq => ⟨hq.1, fun x => hq.2 (nr x)⟩⟩
  e28 := fun e => ⟨.inl (h'.e28 (nr e)).1, (h'.e28 (nr e)).2⟩
  e29 := fun e => h'.e29 (nr e)
  e30 := fun _ V' s' hv' => by
   rw [hv] at hv'
   injection hv' with e
   have e1 := Array.toList_inj.2 e
   injection e1 with e2 e3
   injection e3
  e33 := fun e => absurd (nr e) n33
  o29 := fun e => .inl (h'.o29 (nr e))
  p30 := fun _ => .inl d28
  o32 := fun e => ⟨.inl (h'.o32 (nr e)).1, .inl (h'.o32 (nr e)).2⟩
 }
theorem ThJ.put32 (h : ThJ D wr oo ox oy wn ws key r done v58 v64 v70 v71 v73 v78 v79 v80 v52 v81 v82 v14 v15 w) (d29 : done 29) (d31 : done 31) (hlow : ∀ q, D q → q < wr.heap.size) {p : Nat} {X : List Value} (e14 : v14 = .pointer (some ⟨p, 0, none⟩)) (e81 : v81 = .agg X.toArray) (hX : X.length = 6) (hlo : wr.heap.size ≤ p) (d26 : done 26) (d20 : done 20) (hw : w' = w.setRow p X.toArray) (hblk : ∃ zs, Blk w p 31 zs) : ThJ D wr oo ox oy wn ws key r (fun q => done q ∨ q = 32) v58 v64 v70 v71 v73 v78 v79 v80 v52 v81 v82 v14 v15 w' := by
 have k : Keeps (fun i => i = p) w w' := by rw [hw]; exact setRow_keep _ _ _
 have hD : ∀ {Y : Option JV} {X : List Value}, ORAt D w X Y → ORAt D w' X Y := fun hX => hX.keep k fun q hq e => by
  have h1 := hlow q hq
  omega
 exact {
  keep := h.keep.trans k fun i hi e => by omega
  c5 := fun e => (h.c5 (nr e)).imp fun X hX => ⟨hX.1, hD hX.2⟩
  c11 := fun e => (h.c11 (nr e)).imp fun X hX => ⟨hX.1, hD hX.2⟩
  c17 := fun e => (h.c17 (nr e)).imp fun X hX => ⟨hX.1, hD hX.2⟩
  m18 := fun _ n => absurd (.inl d20) n
  m20 := fun _ n => absurd (.inl d26) n
  b25 := fun _ n => absurd (.inl d26) n
  ne := fun _ n => absurd (.inl d26) n
  r26 := fun e => by
   obtain ⟨A, c, h1, h2, h3, h4⟩ := h.r26 d26
   exact ⟨A, c, h1, h2.keep k fun q a ea x => h4 q a ea ⟨d31, by rw [e14, x]⟩, h3, fun q a ea x => h4 q a ea ⟨d31, x.2⟩⟩
  p31 := fun _ => ⟨p, X, e14, by rw [hw]; exact hblk.elim fun zs hz => hz.setRow X, hlo, hX, fun _ => e81⟩
  c27 := fun e => by
   obtain ⟨V, A, n, c, h1, h2, h3, h4, h5⟩ := h.c27 (nr e)
   exact ⟨V, A, n, c, h1, (h2.keep k fun q hq x => hq.2 d31 (by rw [e14, x])).mono fun q hq _ => ⟨hq.1, fun x => hq.2 d31⟩, h3.keep k (fun q a ea x => (h5 q a ea).2 d31 (by rw [e14, x])), h4, h5.mono fun q hq => ⟨hq.1, fun x => hq.2 d31⟩⟩
  e28 := fun e => ⟨.inl (h.e28 (nr e)).1, (h.e28 (nr e)).2⟩
  e29 := fun e => h.e29 (nr e)
  e30 := fun e => h.e30 (nr e)
  e33 := fun e => h.e33 (nr e)
  o29 := fun e => .inl (h.o29 (nr e))
  p30 := fun e => .inl (h.p30 (nr e))
  o32 := fun _ => ⟨.inl d29, .inl d31⟩
 }
theorem ThJ.asg33 (h : ThJ D wr oo ox oy wn ws key r done v58 v64 v70 v71 v73 v78 v79 v80 v52 v81 v82 v14 v15 w) (k : Keeps (fun _ => False) w w') : ThJ D wr oo ox oy wn ws key r (fun q => done q ∨ q = 33) v58 v64 v70 v71 v73 v78 v79 v80 v52 v81 v82 v14 v82 w' := by
 have h' := h.stay k
 exact {
  keep := h'.keep
  c5 := fun e => h'.c5 (nr e)
  c11 := fun e => h'.c11 (nr e)
  c17 := fun e => h'.c17 (nr e)
  m18 := fun e n => h'.m18 (nr e) fun x => n (.inl x)
  m20 := fun e n => h'.m20 (nr e) fun x => n (.inl x)
  b25 := fun e n => h'.b25 (nr e) fun x => n (.inl x)
  ne := fun e n => ⟨fun x y => (h'.ne (nr e) fun x => n (.inl x)).1 (nr x) fun z => y (.inl z), fun x => (h'.ne (nr e) fun x => n (.inl x)).2 (nr x)⟩
  r26 := fun e => (h'.r26 (nr e)).imp fun A hA => hA.imp fun c hc => ⟨hc.1, hc.2.1, hc.2.2.1, fun q a ea x => hc.2.2.2 q a ea ⟨nr x.1, x.2⟩⟩
  p31 := fun e => (h'.p31 (nr e)).imp fun p hp => hp.imp fun zs hz => ⟨hz.1, hz.2.1, hz.2.2.1, hz.2.2.2.1, fun x => hz.2.2.2.2 (nr x)⟩
  c27 := fun e => by
   obtain ⟨V, A, n, c, h1, h2, h3, h4, h5⟩ := h'.c27 (nr e)
   exact ⟨V, A, n, c, h1, h2.mono fun q hq _ => ⟨hq.1, fun x => hq.2 (nr x)⟩, h3, h4, h5.mono fun q hq => ⟨hq.1, fun x => hq.2 (nr x)⟩⟩
  e28 := fun e => ⟨.inl (h'.e28 (nr e)).1, (h'.e28 (nr e)).2⟩
  e29 := fun e => h'.e29 (nr e)
  e30 := fun e => h'.e30 (nr e)
  e33 := fun _ => rfl
  o29 := fun e => .inl (h'.o29 (nr e))
  p30 := fun e => .inl (h'.p30 (nr e))
  o32 := fun e => ⟨.inl (h'.o32 (nr e)).1, .inl (h'.o32 (nr e)).2⟩
 }
end
end Go.Proofs.YtdmcioghdindfaaGreatDoor
