/-
  LAWS for FaultFound: what was found first, in both errors; what the five targets hold.
-/
import Derived.Test.YtinonjfnhedlpaaDoorFErrAsW
import Derived.Test.YtinonjfnhedlpaaDoorFIndexW
import Derived.Test.YtinonjfnhedlpaaDoorFKindW
set_option linter.unusedSimpArgs false
namespace Go.Proofs.YtinonjfnhedlpaaDoor
open Go Go.RowKit Go.Extern.Stop Go.Stop Go.Extern Go.Aff Go.Fault
def aK (k : Int) : VT → Bool := fun x => asP k (kindF x)
theorem kindF_erase (t : VT) : kindF t.erase = kindF t := by cases t <;> simp [VT.erase, kindF]
theorem aK_erase (k : Int) (x : VT) : aK k x.erase = aK k x := by unfold aK; rw [kindF_erase]
theorem firstT_erase (P : VT → Bool) (hP : ∀ x, P x.erase = P x) (t : VT) : firstT P t.erase = (firstT P t).map VT.erase := by
  unfold firstT
  rw [VT.items_erase, List.find?_map]
  have h1 : (fun p : Nat × VT => P p.2) ∘ plainI = fun p => P p.2 := by
    funext p
    simp [plainI, hP]
  rw [h1]
  cases (t.items 1).find? (fun p => P p.2) <;> simp [plainI]
theorem firstT_place {P : VT → Bool} {t x : VT} (h : firstT P t = some x) : P x = true ∧ ∃ (j d : Nat), (t.items 1)[j]? = some (d, x) ∧ ∀ (q : Nat) (p : Nat × VT), q < j → (t.items 1)[q]? = some p → P p.2 = false := by
  unfold firstT at h
  obtain ⟨p, hp, rfl⟩ := Option.map_eq_some_iff.1 h
  obtain ⟨h1, j, hj, h2, h3⟩ := List.find?_eq_some_iff_getElem.1 hp
  refine ⟨h1, j, p.1, by rw [List.getElem?_eq_getElem hj, h2], fun q p' hq hp' => ?_⟩
  obtain ⟨hql, hpp⟩ := List.getElem?_eq_some_iff.1 hp'
  have := h3 q hq
  rw [hpp] at this
  simpa using this
theorem lfirst_found (w : World) (A : Option Addr) (n c : Nat) (t vt x : VT) (k : Int) (he : vt.erase = t) (h : firstT (aK k) vt = some x) (hn : (t.items 1).length = n) (hb : n ≤ 1048576) (hS : SeenAt w A (t.items 1)) :
    ∃ d, ∀ W, Keeps (fun _ => False) w W → Calls Tryd.prog 13 #[.slice A n c, .int .i64 k] W fun e w' => e = .returned (.tuple #[.agg (seenV d x).toArray, .bool true]) ∧ Keeps (fun _ => False) W w' := by
  have h1 : firstT (aK k) t = some x.erase := by rw [← he, firstT_erase _ (aK_erase k), h]; rfl
  obtain ⟨hP, j, d, hj, hno⟩ := firstT_place h1
  refine ⟨d, fun W hW => ?_⟩
  have h2 := lfirst_some W A n c (t.items 1) k j (d, x.erase) hn hb (hS.keep hW) hno hj hP
  rw [seenV_erase] at h2
  exact h2
/-- What fault.As hands back, beside what errors.As found in the law's own error. -/
def AsSame (w : World) (o : Option VT) (e : Ending) (w' : World) : Prop :=
  match o with
  | none => e = .returned (.tuple #[.nilIface, .iface 33 (.int .i64 4)]) ∧ Keeps (fun _ => False) w w'
  | some x1 => ∃ x2 D, e = .returned (.tuple #[vv x2, .nilIface]) ∧ Keeps (fun _ => False) w w' ∧ x2.erase = x1.erase ∧ At D w' x2
theorem as_same (w : World) (A : Option Addr) (n c : Nat) (cs : List CauseV) (k : Int) (hn : cs.length = n) (hS : CausesAt w A cs) (hk : wantsB k = true) (t vt : VT) (hb : buildF cs = .inr t) (he : vt.erase = t) :
    Calls Tryd.prog 12 #[.slice A n c, .int .i64 k] w (AsSame w (firstT (aK k) vt)) := by
  refine (FAs_any w A n c cs k hn hS).mono fun e w' h => ?_
  obtain ⟨vt2, h1, h2, h3⟩ := (h.2.2 t hb).2 hk
  have e2 : (firstT (aK k) vt2).map VT.erase = (firstT (aK k) vt).map VT.erase := by
    rw [← firstT_erase _ (aK_erase k), ← firstT_erase _ (aK_erase k), h1, he]
  change match firstT (aK k) vt2 with
    | some x => e = .returned (.tuple #[vv x, .nilIface])
    | none => e = .returned (.tuple #[.nilIface, asE 4]) at h3
  cases h5 : firstT (aK k) vt2 with
  | none =>
    cases h6 : firstT (aK k) vt with
    | none =>
      rw [h5] at h3
      exact ⟨h3, h.1⟩
    | some x =>
      rw [h5, h6] at e2
      cases e2
  | some x2 =>
    cases h6 : firstT (aK k) vt with
    | none =>
      rw [h5, h6] at e2
      cases e2
    | some x =>
      rw [h5, h6] at e2
      rw [h5] at h3
      obtain ⟨_, j, d, hj, _⟩ := firstT_place h5
      exact ⟨x2, _, h3, h.1, Option.some.inj e2, h2.item 1 (d, x2) (List.mem_of_getElem? hj)⟩
theorem AsPost.keepF {w w' : World} {tgt : Nat} {T : TypeId} {o : Option VT} {e : Ending} (h : AsPost w tgt T o e w') : Keeps (fun i => i = tgt) w w' := by
  cases o with
  | none => exact h.2.mono fun _ _ h => h.elim
  | some x => exact h.2.1
/-- What a target holds behind errors.As. -/
def zk (o : Option VT) (zs : List Value) : List Value := match o with
  | none => zs
  | some x => cellsV x
theorem AsPost.blkF {w w' : World} {tgt : Nat} {T : TypeId} {o : Option VT} {e : Ending} {zs : List Value} (h : AsPost w tgt T o e w') (hb : Blk w tgt T zs) : Blk w' tgt T (zk o zs) := by
  cases o with
  | none => exact h.2.blk hb (fun h => h)
  | some x => exact h.2.2
theorem keeps_inside {F : Nat → Prop} {w w' : World} (h : Keeps F w w') (hF : ∀ i, i < w.heap.size → ¬ F i) : Keeps (fun _ => False) w w' := h.mono fun i hi hf => hF i hi hf
/-- The five targets, in memory. -/
structure FI (w0 : World) (g : Nat) (vt : VT) (z1 z2 z3 z4 z5 : List Value) (W : World) : Prop where
  keep : Keeps (fun _ => False) w0 W
  old : w0.heap.size ≤ g
  pos : 0 < g
  glob : GlobE W
  at_ : At (fun i => i < g) W vt
  b1 : Blk W g 33 z1
  b2 : Blk W (g + 1) 40 z2
  b3 : Blk W (g + 2) 42 z3
  b4 : Blk W (g + 3) 43 z4
  b5 : Blk W (g + 4) 45 z5
theorem GlobE.keepF {F : Nat → Prop} {w w' : World} (h : GlobE w) (k : Keeps F w w') (hF : ¬ F 0) : GlobE w' := by
  unfold GlobE at *
  have hlt : (0 : Nat) < w.heap.size := World.block_lt_of_cell? w ⟨0, 0, none⟩ h
  exact (k.cell (p := ⟨0, 0, none⟩) hlt hF).trans h
theorem keeps_back {i : Nat} {w0 W W' : World} (h0 : Keeps (fun _ => False) w0 W) (h : Keeps (fun k => k = i) W W') (hi : w0.heap.size ≤ i) : Keeps (fun _ => False) w0 W' :=
  keeps_inside ((h0.mono (G := fun k => k = i) (fun _ _ h => h.elim)).trans h (fun _ _ h => h)) fun k hk he => by omega
theorem FI.step {w0 : World} {g : Nat} {vt : VT} {z1 z2 z3 z4 z5 : List Value} {W W' : World} (h : FI w0 g vt z1 z2 z3 z4 z5 W) (k : Keeps (fun _ => False) W W') : FI w0 g vt z1 z2 z3 z4 z5 W' :=
  ⟨h.keep.trans k (fun _ _ h => h), h.old, h.pos, h.glob.keep k, h.at_.keep k (fun _ _ h => h), k.blk h.b1 (fun h => h), k.blk h.b2 (fun h => h), k.blk h.b3 (fun h => h), k.blk h.b4 (fun h => h), k.blk h.b5 (fun h => h)⟩
theorem FI.s1 {w0 : World} {g : Nat} {vt : VT} {z1 z2 z3 z4 z5 : List Value} {W W' : World} {o : Option VT} {e : Ending} (h : FI w0 g vt z1 z2 z3 z4 z5 W) (p : AsPost W g 33 o e W') : FI w0 g vt (zk o z1) z2 z3 z4 z5 W' := by
  have k := p.keepF
  have h1 := h.old
  have h2 := h.pos
  exact ⟨keeps_back h.keep k (by omega), h.old, h.pos, h.glob.keepF k (by omega), h.at_.keep k (fun i hi he => by omega), p.blkF h.b1, k.blk h.b2 (by omega), k.blk h.b3 (by omega), k.blk h.b4 (by omega), k.blk h.b5 (by omega)⟩
theorem FI.s2 {w0 : World} {g : Nat} {vt : VT} {z1 z2 z3 z4 z5 : List Value} {W W' : World} {o : Option VT} {e : Ending} (h : FI w0 g vt z1 z2 z3 z4 z5 W) (p : AsPost W (g + 1) 40 o e W') : FI w0 g vt z1 (zk o z2) z3 z4 z5 W' := by
  have k := p.keepF
  have h1 := h.old
  have h2 := h.pos
  exact ⟨keeps_back h.keep k (by omega), h.old, h.pos, h.glob.keepF k (by omega), h.at_.keep k (fun i hi he => by omega), k.blk h.b1 (by omega), p.blkF h.b2, k.blk h.b3 (by omega), k.blk h.b4 (by omega), k.blk h.b5 (by omega)⟩
theorem FI.s3 {w0 : World} {g : Nat} {vt : VT} {z1 z2 z3 z4 z5 : List Value} {W W' : World} {o : Option VT} {e : Ending} (h : FI w0 g vt z1 z2 z3 z4 z5 W) (p : AsPost W (g + 2) 42 o e W') : FI w0 g vt z1 z2 (zk o z3) z4 z5 W' := by
  have k := p.keepF
  have h1 := h.old
  have h2 := h.pos
  exact ⟨keeps_back h.keep k (by omega), h.old, h.pos, h.glob.keepF k (by omega), h.at_.keep k (fun i hi he => by omega), k.blk h.b1 (by omega), k.blk h.b2 (by omega), p.blkF h.b3, k.blk h.b4 (by omega), k.blk h.b5 (by omega)⟩
theorem FI.s4 {w0 : World} {g : Nat} {vt : VT} {z1 z2 z3 z4 z5 : List Value} {W W' : World} {o : Option VT} {e : Ending} (h : FI w0 g vt z1 z2 z3 z4 z5 W) (p : AsPost W (g + 3) 43 o e W') : FI w0 g vt z1 z2 z3 (zk o z4) z5 W' := by
  have k := p.keepF
  have h1 := h.old
  have h2 := h.pos
  exact ⟨keeps_back h.keep k (by omega), h.old, h.pos, h.glob.keepF k (by omega), h.at_.keep k (fun i hi he => by omega), k.blk h.b1 (by omega), k.blk h.b2 (by omega), k.blk h.b3 (by omega), p.blkF h.b4, k.blk h.b5 (by omega)⟩
theorem FI.s5 {w0 : World} {g : Nat} {vt : VT} {z1 z2 z3 z4 z5 : List Value} {W W' : World} {o : Option VT} {e : Ending} (h : FI w0 g vt z1 z2 z3 z4 z5 W) (p : AsPost W (g + 4) 45 o e W') : FI w0 g vt z1 z2 z3 z4 (zk o z5) W' := by
  have k := p.keepF
  have h1 := h.old
  have h2 := h.pos
  exact ⟨keeps_back h.keep k (by omega), h.old, h.pos, h.glob.keepF k (by omega), h.at_.keep k (fun i hi he => by omega), k.blk h.b1 (by omega), k.blk h.b2 (by omega), k.blk h.b3 (by omega), k.blk h.b4 (by omega), p.blkF h.b5⟩
/-- The five targets as they are made. -/
theorem FI.start {w0 W : World} {vt : VT} {D : Nat → Prop} (h : Keeps (fun _ => False) w0 W) (hg : GlobE W) (ha : At D W vt) :
    FI w0 W.heap.size vt [.int .i64 0] [.int .i64 0, .int .i64 0] [.int .i64 0, .string ⟨#[]⟩] [.pointer none] [.slice none 0 0]
      (((((W.alloc (.cells #[.int .i64 0] 33)).alloc (.cells #[.int .i64 0, .int .i64 0] 40)).alloc (.cells #[.int .i64 0, .string ⟨#[]⟩] 42)).alloc (.cells #[.pointer none] 43)).alloc (.cells #[.slice none 0 0] 45)) := by
  have hlt : (0 : Nat) < W.heap.size := World.block_lt_of_cell? W ⟨0, 0, none⟩ hg
  have hk : Keeps (fun _ => False) W (((((W.alloc (.cells #[.int .i64 0] 33)).alloc (.cells #[.int .i64 0, .int .i64 0] 40)).alloc (.cells #[.int .i64 0, .string ⟨#[]⟩] 42)).alloc (.cells #[.pointer none] 43)).alloc (.cells #[.slice none 0 0] 45)) := (((((Keeps.refl _ W).alloc _).alloc _).alloc _).alloc _).alloc _
  refine ⟨h.trans hk (fun _ _ h => h), h.size, hlt, hg.keep hk, (ha.mono (fun i _ hi => hi)).keep hk (fun _ _ h => h), ?_, ?_, ?_, ?_, ?_⟩
  · exact ((((Blk.new W _ _).alloc _).alloc _).alloc _).alloc _
  · have := Blk.new (W.alloc (.cells #[.int .i64 0] 33)) 40 [.int .i64 0, .int .i64 0]
    rw [World.size_alloc] at this
    exact ((this.alloc _).alloc _).alloc _
  · have := Blk.new ((W.alloc (.cells #[.int .i64 0] 33)).alloc (.cells #[.int .i64 0, .int .i64 0] 40)) 42 [.int .i64 0, .string ⟨#[]⟩]
    rw [World.size_alloc, World.size_alloc] at this
    exact (this.alloc _).alloc _
  · have := Blk.new (((W.alloc (.cells #[.int .i64 0] 33)).alloc (.cells #[.int .i64 0, .int .i64 0] 40)).alloc (.cells #[.int .i64 0, .string ⟨#[]⟩] 42)) 43 [.pointer none]
    rw [World.size_alloc, World.size_alloc, World.size_alloc] at this
    exact this.alloc _
  · have := Blk.new ((((W.alloc (.cells #[.int .i64 0] 33)).alloc (.cells #[.int .i64 0, .int .i64 0] 40)).alloc (.cells #[.int .i64 0, .string ⟨#[]⟩] 42)).alloc (.cells #[.pointer none] 43)) 45 [.slice none 0 0]
    rw [World.size_alloc, World.size_alloc, World.size_alloc, World.size_alloc] at this
    exact this
end Go.Proofs.YtinonjfnhedlpaaDoor
