/- Texts. -/
import Derived.Test.YtplleficmkfniaaGreatDoorS25
import Derived.Laws.EntriesVeiled
set_option linter.unusedSimpArgs false
set_option maxRecDepth 100000
set_option maxHeartbeats 4000000
namespace Go.Proofs.YtplleficmkfniaaGreatDoor
open Go Go.RowKit Go.Aff
structure DTwoE (S : (Nat → Prop) → World → List (List Int) → Prop) (E0 : Nat → Prop) (T : TypeId) (wr : World) (i1 i2 a1 a2 s1 s2 t1 t2 d1 d2 : Nat) (l0 l1 l2 : List (List Int)) (X Y : List Value) (done : Nat → Prop) (f : Nat → Value) (w : World) (E : Nat → Prop) (l : List (List Int)) : Prop where
 st : Took S E0 E wr w l
 z0 : ¬ done i1 → l = l0
 z1 : done i1 → ¬ done i2 → l = l1
 z2 : done i2 → l = l2
 dep : done i2 → done i1
 c1 : done i1 → f t1 = .agg X.toArray
 c2 : done i2 → f t2 = .agg Y.toArray
 v1 : done a1 → ∃ p cs, f d1 = .pointer (some ⟨p, 0, none⟩) ∧ Blk w p T cs ∧ wr.heap.size ≤ p ∧ cs.length = 32 ∧ ¬ E p ∧ (done s1 → cs = X)
 v2 : done a2 → ∃ p cs, f d2 = .pointer (some ⟨p, 0, none⟩) ∧ Blk w p T cs ∧ wr.heap.size ≤ p ∧ cs.length = 32 ∧ ¬ E p ∧ (done s2 → cs = Y)
 ne : done a1 → done a2 → f d1 ≠ f d2
 o1 : done s1 → done i1 ∧ done a1
 o2 : done s2 → done i2 ∧ done a2
def DTwo (S : (Nat → Prop) → World → List (List Int) → Prop) (E0 : Nat → Prop) (T : TypeId) (wr : World) (i1 i2 a1 a2 s1 s2 t1 t2 d1 d2 : Nat) (l0 l1 l2 : List (List Int)) (X Y : List Value) (done : Nat → Prop) (f : Nat → Value) (w : World) : Prop := ∃ E l, DTwoE S E0 T wr i1 i2 a1 a2 s1 s2 t1 t2 d1 d2 l0 l1 l2 X Y done f w E l
section
variable {S : (Nat → Prop) → World → List (List Int) → Prop} {E0 : Nat → Prop} {T : TypeId} {wr w w' : World} {i1 i2 a1 a2 s1 s2 t1 t2 d1 d2 : Nat} {l0 l1 l2 : List (List Int)} {X Y : List Value} {done : Nat → Prop} {f : Nat → Value} {E E' : Nat → Prop} {l : List (List Int)}
theorem DTwo.start (hS : Lasts S) (hT : Tkg S E0 wr l0) (k : Keeps (fun _ => False) wr w) (h : ∀ k ∈ [i1, i2, a1, a2, s1, s2], ¬ done k) : DTwo S E0 T wr i1 i2 a1 a2 s1 s2 t1 t2 d1 d2 l0 l1 l2 X Y done f w :=
 ⟨E0, l0, (Took.start hT.st hT.cel).stay hS k, fun _ => rfl, fun e => absurd e (h _ (by simp)), fun e => absurd e (h _ (by simp)), fun e => absurd e (h _ (by simp)), fun e => absurd e (h _ (by simp)), fun e => absurd e (h _ (by simp)), fun e => absurd e (h _ (by simp)), fun e => absurd e (h _ (by simp)), fun e => absurd e (h _ (by simp)), fun e => absurd e (h _ (by simp)), fun e => absurd e (h _ (by simp))⟩
theorem DTwoE.got1 (h : DTwoE S E0 T wr i1 i2 a1 a2 s1 s2 t1 t2 d1 d2 l0 l1 l2 X Y done f w E l) (k : Took S E E' w w' l1) (hn : ¬ done i1) (hi : ∀ q ∈ [i2, a1, a2, s1, s2], q ≠ i1) (ht : ∀ q ∈ [t2, d1, d2], q ≠ t1) :
  DTwo S E0 T wr i1 i2 a1 a2 s1 s2 t1 t2 d1 d2 l0 l1 l2 X Y (fun q => done q ∨ q = i1) (updV f (some t1) (.agg X.toArray)) w' := by
 have hE : ∀ p cs, Blk w p T cs → ¬ E p → Blk w' p T cs ∧ ¬ E' p := fun p cs hb he => ⟨k.keep.blk hb he, fun h2 => (k.new p h2).elim he fun h3 => by have := hb.lt; omega⟩
 have h2 : ¬ done i2 := fun e => hn (h.dep e)
 refine ⟨E', l1, h.st.trans k, fun e => absurd (.inr rfl) e, fun _ _ => rfl, fun e => absurd (e.resolve_right (hi _ (by simp))) h2, fun _ => .inr rfl, fun _ => updV_at, fun e => absurd (e.resolve_right (hi _ (by simp))) h2, fun e => ?_, fun e => ?_, fun e1 e2 => ?_, fun e => ?_, fun e => ?_⟩
 ·rw [updV_ne (ht _ (by simp))]
  obtain ⟨p, cs, g1, g2, g3, g4, g5, g6⟩ := h.v1 (e.resolve_right (hi _ (by simp)))
  exact ⟨p, cs, g1, (hE p cs g2 g5).1, g3, g4, (hE p cs g2 g5).2, fun e => g6 (e.resolve_right (hi _ (by simp)))⟩
 ·rw [updV_ne (ht _ (by simp))]
  obtain ⟨p, cs, g1, g2, g3, g4, g5, g6⟩ := h.v2 (e.resolve_right (hi _ (by simp)))
  exact ⟨p, cs, g1, (hE p cs g2 g5).1, g3, g4, (hE p cs g2 g5).2, fun e => g6 (e.resolve_right (hi _ (by simp)))⟩
 ·rw [updV_ne (ht _ (by simp)), updV_ne (ht _ (by simp))]; exact h.ne (e1.resolve_right (hi _ (by simp))) (e2.resolve_right (hi _ (by simp)))
 ·have := h.o1 (e.resolve_right (hi _ (by simp))); exact ⟨.inl this.1, .inl this.2⟩
 ·have := h.o2 (e.resolve_right (hi _ (by simp))); exact ⟨.inl this.1, .inl this.2⟩
theorem DTwoE.got2 (h : DTwoE S E0 T wr i1 i2 a1 a2 s1 s2 t1 t2 d1 d2 l0 l1 l2 X Y done f w E l) (k : Took S E E' w w' l2) (h1 : done i1) (hi : ∀ q ∈ [i1, a1, a2, s1, s2], q ≠ i2) (ht : ∀ q ∈ [t1, d1, d2], q ≠ t2) :
  DTwo S E0 T wr i1 i2 a1 a2 s1 s2 t1 t2 d1 d2 l0 l1 l2 X Y (fun q => done q ∨ q = i2) (updV f (some t2) (.agg Y.toArray)) w' := by
 have hE : ∀ p cs, Blk w p T cs → ¬ E p → Blk w' p T cs ∧ ¬ E' p := fun p cs hb he => ⟨k.keep.blk hb he, fun h2 => (k.new p h2).elim he fun h3 => by have := hb.lt; omega⟩
 refine ⟨E', l2, h.st.trans k, fun e => absurd (.inl h1) e, fun _ e => absurd (.inr rfl) e, fun _ => rfl, fun _ => .inl h1, fun _ => ?_, fun _ => updV_at, fun e => ?_, fun e => ?_, fun e1 e2 => ?_, fun e => ?_, fun e => ?_⟩
 ·rw [updV_ne (ht _ (by simp))]; exact h.c1 h1
 ·rw [updV_ne (ht _ (by simp))]
  obtain ⟨p, cs, g1, g2, g3, g4, g5, g6⟩ := h.v1 (e.resolve_right (hi _ (by simp)))
  exact ⟨p, cs, g1, (hE p cs g2 g5).1, g3, g4, (hE p cs g2 g5).2, fun e => g6 (e.resolve_right (hi _ (by simp)))⟩
 ·rw [updV_ne (ht _ (by simp))]
  obtain ⟨p, cs, g1, g2, g3, g4, g5, g6⟩ := h.v2 (e.resolve_right (hi _ (by simp)))
  exact ⟨p, cs, g1, (hE p cs g2 g5).1, g3, g4, (hE p cs g2 g5).2, fun e => g6 (e.resolve_right (hi _ (by simp)))⟩
 ·rw [updV_ne (ht _ (by simp)), updV_ne (ht _ (by simp))]; exact h.ne (e1.resolve_right (hi _ (by simp))) (e2.resolve_right (hi _ (by simp)))
 ·have := h.o1 (e.resolve_right (hi _ (by simp))); exact ⟨.inl this.1, .inl this.2⟩
 ·have := h.o2 (e.resolve_right (hi _ (by simp))); exact ⟨.inl this.1, .inl this.2⟩
theorem DTwoE.made1 (hS : Lasts S) (h : DTwoE S E0 T wr i1 i2 a1 a2 s1 s2 t1 t2 d1 d2 l0 l1 l2 X Y done f w E l) {zs : List Value} (hz : zs.length = 32) (hn : ¬ done a1) (hi : ∀ q ∈ [i1, i2, a2, s1, s2], q ≠ a1) (ht : ∀ q ∈ [t1, t2, d2], q ≠ d1) :
  DTwo S E0 T wr i1 i2 a1 a2 s1 s2 t1 t2 d1 d2 l0 l1 l2 X Y (fun q => done q ∨ q = a1) (updV f (some d1) (.pointer (some ⟨w.heap.size, 0, none⟩))) (w.alloc (.cells zs.toArray T)) := by
 have k : Keeps (fun _ => False) w (w.alloc (.cells zs.toArray T)) := (Keeps.refl _ w).alloc _
 refine ⟨E, l, h.st.stay hS k, fun e => h.z0 fun e2 => e (.inl e2), fun e1 e2 => h.z1 (e1.resolve_right (hi _ (by simp))) fun e => e2 (.inl e), fun e => h.z2 (e.resolve_right (hi _ (by simp))), fun e => .inl (h.dep (e.resolve_right (hi _ (by simp)))), fun e => ?_, fun e => ?_, fun _ => ?_, fun e => ?_, fun e1 e2 => ?_, fun e => ?_, fun e => ?_⟩
 ·rw [updV_ne (ht _ (by simp))]; exact h.c1 (e.resolve_right (hi _ (by simp)))
 ·rw [updV_ne (ht _ (by simp))]; exact h.c2 (e.resolve_right (hi _ (by simp)))
 ·exact ⟨_, zs, updV_at, Blk.new _ _ _, h.st.keep.size, hz, fun he => Nat.lt_irrefl _ (h.st.lt _ he), fun e => absurd (h.o1 (e.resolve_right (hi _ (by simp)))).2 hn⟩
 ·rw [updV_ne (ht _ (by simp))]
  obtain ⟨p, cs, g1, g2, g3, g4, g5, g6⟩ := h.v2 (e.resolve_right (hi _ (by simp)))
  exact ⟨p, cs, g1, k.blk g2 (fun h => h), g3, g4, g5, fun e => g6 (e.resolve_right (hi _ (by simp)))⟩
 ·rw [updV_at, updV_ne (ht _ (by simp))]
  obtain ⟨p, cs, g1, g2, _⟩ := h.v2 (e2.resolve_right (hi _ (by simp)))
  rw [g1]
  intro e
  injection e with e
  injection e with e
  injection e with e
  have := g2.lt
  omega
 ·have := h.o1 (e.resolve_right (hi _ (by simp))); exact ⟨.inl this.1, .inl this.2⟩
 ·have := h.o2 (e.resolve_right (hi _ (by simp))); exact ⟨.inl this.1, .inl this.2⟩
theorem DTwoE.made2 (hS : Lasts S) (h : DTwoE S E0 T wr i1 i2 a1 a2 s1 s2 t1 t2 d1 d2 l0 l1 l2 X Y done f w E l) {zs : List Value} (hz : zs.length = 32) (hn : ¬ done a2) (hi : ∀ q ∈ [i1, i2, a1, s1, s2], q ≠ a2) (ht : ∀ q ∈ [t1, t2, d1], q ≠ d2) :
  DTwo S E0 T wr i1 i2 a1 a2 s1 s2 t1 t2 d1 d2 l0 l1 l2 X Y (fun q => done q ∨ q = a2) (updV f (some d2) (.pointer (some ⟨w.heap.size, 0, none⟩))) (w.alloc (.cells zs.toArray T)) := by
 have k : Keeps (fun _ => False) w (w.alloc (.cells zs.toArray T)) := (Keeps.refl _ w).alloc _
 refine ⟨E, l, h.st.stay hS k, fun e => h.z0 fun e2 => e (.inl e2), fun e1 e2 => h.z1 (e1.resolve_right (hi _ (by simp))) fun e => e2 (.inl e), fun e => h.z2 (e.resolve_right (hi _ (by simp))), fun e => .inl (h.dep (e.resolve_right (hi _ (by simp)))), fun e => ?_, fun e => ?_, fun e => ?_, fun _ => ?_, fun e1 e2 => ?_, fun e => ?_, fun e => ?_⟩
 ·rw [updV_ne (ht _ (by simp))]; exact h.c1 (e.resolve_right (hi _ (by simp)))
 ·rw [updV_ne (ht _ (by simp))]; exact h.c2 (e.resolve_right (hi _ (by simp)))
 ·rw [updV_ne (ht _ (by simp))]
  obtain ⟨p, cs, g1, g2, g3, g4, g5, g6⟩ := h.v1 (e.resolve_right (hi _ (by simp)))
  exact ⟨p, cs, g1, k.blk g2 (fun h => h), g3, g4, g5, fun e => g6 (e.resolve_right (hi _ (by simp)))⟩
 ·exact ⟨_, zs, updV_at, Blk.new _ _ _, h.st.keep.size, hz, fun he => Nat.lt_irrefl _ (h.st.lt _ he), fun e => absurd (h.o2 (e.resolve_right (hi _ (by simp)))).2 hn⟩
 ·rw [updV_at, updV_ne (ht _ (by simp))]
  obtain ⟨p, cs, g1, g2, _⟩ := h.v1 (e1.resolve_right (hi _ (by simp)))
  rw [g1]
  intro e
  injection e with e
  injection e with e
  injection e with e
  have := g2.lt
  omega
 ·have := h.o1 (e.resolve_right (hi _ (by simp))); exact ⟨.inl this.1, .inl this.2⟩
 ·have := h.o2 (e.resolve_right (hi _ (by simp))); exact ⟨.inl this.1, .inl this.2⟩
theorem DTwoE.put1 (hS : Lasts S) (h : DTwoE S E0 T wr i1 i2 a1 a2 s1 s2 t1 t2 d1 d2 l0 l1 l2 X Y done f w E l) (hl : X.length = 32) {p : Nat} (hp : f d1 = .pointer (some ⟨p, 0, none⟩)) (h1 : done i1) (h2 : done a1) (hi : ∀ q ∈ [i1, i2, a1, a2, s2], q ≠ s1) :
  DTwo S E0 T wr i1 i2 a1 a2 s1 s2 t1 t2 d1 d2 l0 l1 l2 X Y (fun q => done q ∨ q = s1) f (w.setRow p X.toArray) := by
 have k := setRow_keep w p X.toArray
 obtain ⟨p', cs, e1, hb, hlo, hcl, hpE, _⟩ := h.v1 h2
 have hpp : p' = p := by rw [hp] at e1; injection e1 with e1; injection e1 with e1; injection e1 with e1; exact e1.symm
 subst hpp
 refine ⟨E, l, h.st.more hS k fun i hi => by subst hi; exact ⟨hlo, hpE⟩, fun e => h.z0 fun e2 => e (.inl e2), fun e1 e2 => h.z1 (e1.resolve_right (hi _ (by simp))) fun e => e2 (.inl e), fun e => h.z2 (e.resolve_right (hi _ (by simp))), fun e => .inl (h.dep (e.resolve_right (hi _ (by simp)))), fun _ => h.c1 h1, fun e => h.c2 (e.resolve_right (hi _ (by simp))), fun _ => ⟨p', X, hp, hb.setRow X, hlo, hl, hpE, fun _ => rfl⟩, fun e => ?_, fun e1 e2 => h.ne (e1.resolve_right (hi _ (by simp))) (e2.resolve_right (hi _ (by simp))), fun _ => ⟨.inl h1, .inl h2⟩, fun e => ?_⟩
 ·obtain ⟨q, ds, g1, g2, g3, g4, g5, g6⟩ := h.v2 (e.resolve_right (hi _ (by simp)))
  refine ⟨q, ds, g1, k.blk g2 fun e => ?_, g3, g4, g5, fun e => g6 (e.resolve_right (hi _ (by simp)))⟩
  subst e
  have := h.ne h2 (e.resolve_right (hi _ (by simp)))
  rw [hp, g1] at this
  exact this rfl
 ·have := h.o2 (e.resolve_right (hi _ (by simp))); exact ⟨.inl this.1, .inl this.2⟩
theorem DTwoE.put2 (hS : Lasts S) (h : DTwoE S E0 T wr i1 i2 a1 a2 s1 s2 t1 t2 d1 d2 l0 l1 l2 X Y done f w E l) (hl : Y.length = 32) {p : Nat} (hp : f d2 = .pointer (some ⟨p, 0, none⟩)) (h1 : done i2) (h2 : done a2) (hi : ∀ q ∈ [i1, i2, a1, a2, s1], q ≠ s2) :
  DTwo S E0 T wr i1 i2 a1 a2 s1 s2 t1 t2 d1 d2 l0 l1 l2 X Y (fun q => done q ∨ q = s2) f (w.setRow p Y.toArray) := by
 have k := setRow_keep w p Y.toArray
 obtain ⟨p', cs, e1, hb, hlo, hcl, hpE, _⟩ := h.v2 h2
 have hpp : p' = p := by rw [hp] at e1; injection e1 with e1; injection e1 with e1; injection e1 with e1; exact e1.symm
 subst hpp
 refine ⟨E, l, h.st.more hS k fun i hi => by subst hi; exact ⟨hlo, hpE⟩, fun e => h.z0 fun e2 => e (.inl e2), fun e1 e2 => h.z1 (e1.resolve_right (hi _ (by simp))) fun e => e2 (.inl e), fun e => h.z2 (e.resolve_right (hi _ (by simp))), fun e => .inl (h.dep (e.resolve_right (hi _ (by simp)))), fun e => h.c1 (e.resolve_right (hi _ (by simp))), fun _ => h.c2 h1, fun e => ?_, fun _ => ⟨p', Y, hp, hb.setRow Y, hlo, hl, hpE, fun _ => rfl⟩, fun e1 e2 => h.ne (e1.resolve_right (hi _ (by simp))) (e2.resolve_right (hi _ (by simp))), fun e => ?_, fun _ => ⟨.inl h1, .inl h2⟩⟩
 ·obtain ⟨q, ds, g1, g2, g3, g4, g5, g6⟩ := h.v1 (e.resolve_right (hi _ (by simp)))
  refine ⟨q, ds, g1, k.blk g2 fun e => ?_, g3, g4, g5, fun e => g6 (e.resolve_right (hi _ (by simp)))⟩
  subst e
  have := h.ne (e.resolve_right (hi _ (by simp))) h2
  rw [hp, g1] at this
  exact this rfl
 ·have := h.o1 (e.resolve_right (hi _ (by simp))); exact ⟨.inl this.1, .inl this.2⟩
end
end Go.Proofs.YtplleficmkfniaaGreatDoor
namespace Go.Aff
open Go Go.RowKit Go.Sha
theorem Out.cutD {F : Nat → Prop} {A : Option Addr} {n : Nat} (h : Out F A n) {k c : Nat} (hk : k < n) : Out F (Aff.cutD A c k) (n - k) := by
 intro hn ad he
 unfold Aff.cutD at he
 split at he
 ·exact h (by omega) ad he
 ·cases A with
  | none => cases he
  | some a =>
   have e : a.add (k * 32) = ad := by simpa using he
   have hb : ad.block = a.block := by rw [← e]; unfold Addr.add; split <;> rfl
   rw [hb]
   exact h (by omega) a rfl
theorem RdD.first {w : World} {A : Option Addr} {n : Nat} {d : List Int} {ds : List (List Int)} (h : RdD w A n (d :: ds)) : ∃ g o, A = some ⟨g, o, none⟩ ∧ Rd w (some ⟨g, o, none⟩) 32 (vb d) ∧ IsDig d := by
 have hn : 0 < n := by rw [← h.1]; simp
 obtain ⟨g, o, d', hA, hd, hl⟩ := h.lies hn
 have hdd : d' = d := by simpa using hd.symm
 subst hdd
 have h2 := h.2.1 d' (by simp)
 refine ⟨g, o, hA, ⟨by rw [vb_length, h2.1], fun _ => ⟨g, o, rfl, fun j hj => ?_⟩⟩, h2⟩
 have := hl j (by rw [vb_length, h2.1]; exact hj)
 rwa [Nat.zero_mul, Nat.add_zero] at this
end Go.Aff
namespace Go.Proofs.YtplleficmkfniaaGreatDoor
open Go Go.RowKit Go.Aff Go.Sha Go.Dig Go.Book
attribute [local go_sem] Oper.semAt_some
def partV (pf pp : Nat) : Value := .func (.func 142) #[] #[.pointer (some ⟨pf, 0, none⟩), .pointer (some ⟨pp, 0, none⟩)]
structure PartIn (fv : Value) (pf pp : Nat) (E : Nat → Prop) (w : World) (l : List (List Int)) (A : Option Addr) (n c : Nat) (ds : List (List Int)) : Prop where
 st : Tkg (TkSt fv) E w l
 room : l.length + 2 * n ≤ 1099511627776
 rd : RdD w A n ds
 out : Out E A n
 pos : 1 ≤ n
 cap : n ≤ c
 few : n ≤ 1099511627776
 fb : Blk w pf 160 [fv]
 fo : ¬ E pf
 pb : Blk w pp 163 [partV pf pp]
 po : ¬ E pp
def PartPost (fv : Value) (E : Nat → Prop) (w : World) (l : List (List Int)) (ds : List (List Int)) (e : Ending) (w' : World) : Prop := e = .returned (.agg (vb (rowD ds)).toArray) ∧ ∃ E', Took (TkSt fv) E E' w w' (l ++ rowTx ds)
theorem part_one_ {fv : Value} {pf pp : Nat} {E : Nat → Prop} {w : World} {l : List (List Int)} {A : Option Addr} {c : Nat} {d : List Int} (h : PartIn fv pf pp E w l A 1 c [d]) :
  Calls Tryz.prog 142 #[.slice A 1 c, .pointer (some ⟨pf, 0, none⟩), .pointer (some ⟨pp, 0, none⟩)] w (PartPost fv E w l [d]) := by
 unfold PartPost
 rw [rowD_one, rowTx_one]
 obtain ⟨g, o, hA, hr, hdg⟩ := h.rd.first
 have hog := h.out (by omega) _ hA
 subst hA
 obtain ⟨X, hX⟩ : ∃ X, X = leafT d := ⟨_, rfl⟩
 rw [← hX]
 have HDL0 : (vb (hsh X)).length = 32 := by simp [vb, hsh_len]
 obtain ⟨DV, hDV⟩ : ∃ DV, DV = vb (hsh X) := ⟨_, rfl⟩
 have HD1 : Hid (∀ u ∈ DV, u.oneCell' = true) := H_ (by rw [hDV]; exact vb_one _)
 have HDL : Hid (DV.length = 32) := H_ (by rw [hDV]; exact HDL0)
 have HIN : Hid ((Tryz.prog.info? 23).map (·.size) = some DV.length) := H_ (infoDg DV HDL.out)
 have HHA : Hid (∀ W, Keeps (fun _ => False) w W → Calls Tryz.prog 138 #[fv, .int .u8 0, .slice (some ⟨W.heap.size, 0, none⟩) 1 1] (W.alloc (.cells #[.slice (some ⟨g, o, none⟩) 32 32] 48)) fun e w' => e = .returned (.agg DV.toArray) ∧ ∃ E', Took (TkSt fv) E E' (W.alloc (.cells #[.slice (some ⟨g, o, none⟩) 32 32] 48)) w' (l ++ [X])) := H_ fun W hW => by
  have hp := parts_one E W 48 (some ⟨g, o, none⟩) 32 32 d (fun i hi => Nat.lt_of_lt_of_le (h.st.lt i hi) hW.size) hdg.1 (hr.keep hW (no_out _ _)) (fun _ a e => by injection e with e; subst e; exact hog) hdg.2 (by omega) (by omega)
  have k1 : Keeps (fun _ => False) w (W.alloc (.cells #[.slice (some ⟨g, o, none⟩) 32 32] 48)) := hW.alloc _
  have h2 := hash_any (h.st.stay (tkLasts _) k1) (by have := h.room; omega) 0 (by omega) (some ⟨W.heap.size, 0, none⟩) 1 [d] hp 1 rfl (by omega) 32 (by simp [hdg.1]) (by omega)
  have hf : (0 : Int) :: [d].flatten = X := by rw [hX]; simp [leafT]
  rw [hf, ← hDV] at h2
  exact h2
 have HPF : Hid (∀ V, Keeps (fun _ => False) w V → V.cell? ⟨pf, 0, none⟩ = some fv) := H_ fun V hV => (hV.blk h.fb (fun h => h)).cell 0
 obtain ⟨N0, hN0⟩ : ∃ N0, N0 = w.heap.size := ⟨_, rfl⟩
 have HNE : Hid (¬ E N0) := H_ fun he => by have := h.st.lt _ he; omega
 have HW1 : Hid (Keeps (fun _ => False) w (w.alloc (.cells (List.replicate 32 (Value.int .u8 0)).toArray 23)) ∧ Blk (w.alloc (.cells (List.replicate 32 (Value.int .u8 0)).toArray 23)) N0 23 (List.replicate 32 (Value.int .u8 0))) := H_ ⟨(Keeps.refl _ w).alloc _, by rw [hN0]; exact Blk.new _ _ _⟩
 have HNN := H_ hN0
 rw [← hDV]
 clear h hr hdg hog hX HDL0 hDV hN0
 go_enter Tryz.func142, Tryz.ntmps142
 go_upto_region 2 with fail
 refine gen_codeF (fun W => Keeps (fun _ => False) w W ∧ Blk W N0 23 (List.replicate 32 (Value.int .u8 0))) HW1.out ?_
 rintro w2 ⟨k2, z2⟩
 have hNN := HNN.out
 rw [← hNN]
 clear hNN
 have HK2 := H_ k2
 have HZ2 := H_ z2
 clear k2 z2
 refine wp_region_tail (S := (fun V => Keeps (fun _ => False) w2 V)) 5 (by kernel_rfl) (Keeps.refl _ _).drew (fun h_ => ?_)
 refine tT [0] (i := 0) (oi := ⟨some 11, _, _, _, _, _⟩) (v := ?_) rfl (Or.inl ⟨by rfl, ?_⟩) h_ ?_
 rotate_left
 ·intro w' hSw
  have cv := HPF.out _ (HK2.out.trans hSw fun _ _ h => h)
  go_simp
  first | done | rfl
 try simp only [pu]
 refine tJ 1 12 ?_
 try simp only [pu]
 refine tJ 2 13 ?_
 try simp only [pu]
 refine tJ 3 14 ?_
 try simp only [pu]
 refine wpAnyT_step (i := 4) (o := ⟨some 15, _, _, _, _, _⟩) (by kernel_rfl) rfl (fun K hK => ?_)
 go_simp
 refine hK.out _ _ (h_.alloc _) (fun h_ => ?_)
 clear hK K
 try simp only [pu]
 refine wpAnyT_tail (i := 5) (o := ⟨some 16, _, _, _, _, _⟩) (by kernel_rfl) (by kernel_rfl) rfl (fun K hK => ?_)
 go_simp
 refine (HHA.out _ (HK2.out.trans (Keeps.refl (fun _ => False) w2).drew fun _ _ h => h)).mono ?_
 rintro e w7 ⟨rfl, E7, hT7⟩
 have HT7 := H_ hT7
 have HZ7 := H_ (hT7.keep.blk (((Keeps.refl (fun _ => False) w2).drew.blk HZ2.out fun h => h).alloc _) HNE.out)
 have HK7 := H_ ((HK2.out.trans (Keeps.refl (fun _ => False) w2).drew fun _ _ h => h).alloc (.cells #[.slice (some ⟨g, o, none⟩) 32 32] 48))
 refine hK.out _ _ ?_
 clear hK K
 try simp only [pu]
 refine wpAnyT_tail (i := 6) (o := ⟨none, _, _, _, _, _⟩) (by kernel_rfl) (by kernel_rfl) rfl (fun K hK => ?_)
 refine step_store_whole rfl 23 (.tmp 4) (.tmp 16) rfl DV rfl rfl HZ7.out (by rw [HDL.out]; simp) HIN.out HD1.out ?_
 refine hK.out _ _ ?_
 clear hK K
 try simp only [pu]
 refine wpAnyT_done (by kernel_rfl) ?_
 go_wp2
 refine bodyPost_ret (results_blk rfl _ _ rfl (HZ7.out.setRow DV) Tryz.underlying23 rfl HIN.out) rfl ⟨rfl, E7, ?_⟩
 refine (Took.begin HK7.out HT7.out).more (tkLasts _) (setRow_keep _ _ _) fun i hi => ?_
 subst hi
 refine ⟨by have := HNN.out; omega, fun he => ?_⟩
 rcases HT7.out.new _ he with h1 | h1
 ·exact HNE.out h1
 ·have h2 := HZ2.out.lt
  have h3 := ((Keeps.refl (fun _ => False) w2).drew.alloc (.cells #[.slice (some ⟨g, o, none⟩) 32 32] 48)).size
  omega
theorem dtwo_cell {S : (Nat → Prop) → World → List (List Int) → Prop} {E0 : Nat → Prop} {T : TypeId} {wr w : World} {i1 i2 a1 a2 s1 s2 t1 t2 d1 d2 : Nat} {l0 l1 l2 : List (List Int)} {X Y : List Value} {done : Nat → Prop} {f : Nat → Value} (h : DTwo S E0 T wr i1 i2 a1 a2 s1 s2 t1 t2 d1 d2 l0 l1 l2 X Y done f w) {p : Nat} {T' : TypeId} {v : Value} (hb : Blk wr p T' [v]) (hE : ¬ E0 p) : w.cell? ⟨p, 0, none⟩ = some v := by
 obtain ⟨E, l, h⟩ := h
 exact (h.st.keep.blk hb hE).cell 0
theorem part_more {fv : Value} {pf pp : Nat} (n : Nat) (ih : ∀ m, m < n → ∀ (E : Nat → Prop) (w : World) (l : List (List Int)) (A : Option Addr) (c : Nat) (ds : List (List Int)), PartIn fv pf pp E w l A m c ds → Calls Tryz.prog 142 #[.slice A m c, .pointer (some ⟨pf, 0, none⟩), .pointer (some ⟨pp, 0, none⟩)] w (PartPost fv E w l ds))
  (h2 : 2 ≤ n) {E : Nat → Prop} {w : World} {l : List (List Int)} {A : Option Addr} {c : Nat} {ds : List (List Int)} (h : PartIn fv pf pp E w l A n c ds) :
  Calls Tryz.prog 142 #[.slice A n c, .pointer (some ⟨pf, 0, none⟩), .pointer (some ⟨pp, 0, none⟩)] w (PartPost fv E w l ds) := by
 have hdl : ds.length = n := h.rd.1
 have hs0 := spl_pos n
 have hs1 := spl_lt h2
 unfold PartPost
 rw [rowD_two (by omega), rowTx_two (by omega), hdl]
 obtain ⟨k, hk⟩ : ∃ k, k = spl n := ⟨_, rfl⟩
 rw [← hk] at hs0 hs1 ⊢
 obtain ⟨DA, hDA⟩ : ∃ DA, DA = rowD (ds.take k) := ⟨_, rfl⟩
 obtain ⟨DB, hDB⟩ : ∃ DB, DB = rowD (ds.drop k) := ⟨_, rfl⟩
 obtain ⟨LA, hLA⟩ : ∃ LA, LA = rowTx (ds.take k) := ⟨_, rfl⟩
 obtain ⟨LB, hLB⟩ : ∃ LB, LB = rowTx (ds.drop k) := ⟨_, rfl⟩
 have HDA : Hid (DA.length = 32 ∧ IsBytes DA) := H_ (by rw [hDA]; exact ⟨rowD_len _, rowD_bytes _⟩)
 have HDB : Hid (DB.length = 32 ∧ IsBytes DB) := H_ (by rw [hDB]; exact ⟨rowD_len _, rowD_bytes _⟩)
 have hla : LA.length ≤ 2 * k - 1 := by rw [hLA]; exact (rowTx_len k _ (by rw [List.length_take, hdl]; omega)).2 (by omega)
 have hlb : LB.length ≤ 2 * (n - k) - 1 := by rw [hLB]; exact (rowTx_len (n - k) _ (by rw [List.length_drop, hdl])).2 (by omega)
 rw [← hDA, ← hDB, ← hLA, ← hLB]
 obtain ⟨X, hX⟩ : ∃ X, X = nodeT DA DB := ⟨_, rfl⟩
 have hpd : pairD DA DB = hsh X := by rw [hX]; rfl
 rw [hpd, ← hX, ← List.append_assoc, ← List.append_assoc]
 obtain ⟨DV, hDV⟩ : ∃ DV, DV = vb (hsh X) := ⟨_, rfl⟩
 have HD1 : Hid (∀ u ∈ DV, u.oneCell' = true) := H_ (by rw [hDV]; exact vb_one _)
 have HDL : Hid (DV.length = 32) := H_ (by rw [hDV]; simp [vb, hsh_len])
 have HIN : Hid ((Tryz.prog.info? 23).map (·.size) = some DV.length) := H_ (infoDg DV HDL.out)
 have HTA : Hid ((vb DA).length = 32) := H_ (by rw [vb_length]; exact HDA.out.1)
 have HTB : Hid ((vb DB).length = 32) := H_ (by rw [vb_length]; exact HDB.out.1)
 have hcu1 := fun W => cutD_h (P := Tryz.prog) (T := 65) (e := 23) Tryz.underlying65 (by kernel_rfl) A n c k (k : Int) rfl (by have := h.cap; omega) W
 have hcu2 := fun W => cutD_l (P := Tryz.prog) (T := 65) (e := 23) Tryz.underlying65 (by kernel_rfl) A n c k (k : Int) rfl (by omega) W
 have hmore : ∀ (E1 : Nat → Prop) (w0 w1 : World) (l1 : List (List Int)), Keeps (fun _ => False) w w0 → Took (TkSt fv) E E1 w0 w1 l1 → ∀ i, ¬ E i → i < w.heap.size → ¬ E1 i := fun E1 w0 w1 l1 k0 ht i hi hlt he => (ht.new i he).elim hi fun h => by have := k0.size; omega
 have HC1 : Hid (∀ w0, Keeps (fun _ => False) w w0 → ∀ E1 w1, Took (TkSt fv) E E1 w0 w1 l → Calls Tryz.prog 142 #[.slice (cutD A c 0) k c, .pointer (some ⟨pf, 0, none⟩), .pointer (some ⟨pp, 0, none⟩)] w1 fun e w' => e = .returned (.agg (vb DA).toArray) ∧ ∃ E', Took (TkSt fv) E1 E' w1 w' (l ++ LA)) := H_ fun w0 k0 E1 w1 ht => by
  have hst := (h.st.stay (tkLasts _) k0).next ht
  have hr1 : RdD w1 (cutD A c 0) k (ds.take k) := by
   have := ((h.rd.keep k0 (no_out _ _)).keep ht.keep h.out).take (k := k) (by omega)
   have := this.cut (k := 0) (c := c) (by omega) (by have := h.cap; omega)
   simpa using this
  have ho1 : Out E1 (cutD A c 0) k := by
   have h3 : Out E1 A n := fun hn ad e he => (hmore E1 w0 w1 l k0 ht ad.block (h.out hn ad e) (by
    obtain ⟨g, o, _, hA, _, hl⟩ := h.rd.lies (k := 0) (by omega)
    obtain ⟨_, _, e4, hlt⟩ := h.rd.2.2.lt (by omega)
    rw [e] at e4
    injection e4 with e4
    subst e4
    exact hlt)) he
   have := (h3.cutD (k := 0) (c := c) (by omega))
   exact fun hn => this (by omega)
  have := ih k hs1 E1 w1 l (cutD A c 0) c (ds.take k) ⟨hst, by have := h.room; omega, hr1, ho1, hs0, by have := h.cap; omega, by have := h.few; omega, ht.keep.blk (k0.blk h.fb fun h => h) h.fo, hmore E1 w0 w1 l k0 ht pf h.fo h.fb.lt, ht.keep.blk (k0.blk h.pb fun h => h) h.po, hmore E1 w0 w1 l k0 ht pp h.po h.pb.lt⟩
  unfold PartPost at this
  rwa [← hDA, ← hLA] at this
 have HC2 : Hid (∀ w0, Keeps (fun _ => False) w w0 → ∀ E1 w1, Took (TkSt fv) E E1 w0 w1 (l ++ LA) → Calls Tryz.prog 142 #[.slice (cutD A c k) (n - k) (c - k), .pointer (some ⟨pf, 0, none⟩), .pointer (some ⟨pp, 0, none⟩)] w1 fun e w' => e = .returned (.agg (vb DB).toArray) ∧ ∃ E', Took (TkSt fv) E1 E' w1 w' (l ++ LA ++ LB)) := H_ fun w0 k0 E1 w1 ht => by
  have hst := (h.st.stay (tkLasts _) k0).next ht
  have hr1 : RdD w1 (cutD A c k) (n - k) (ds.drop k) := ((h.rd.keep k0 (no_out _ _)).keep ht.keep h.out).cut (by omega) h.cap
  have ho1 : Out E1 (cutD A c k) (n - k) := by
   have h3 : Out E1 A n := fun hn ad e he => (hmore E1 w0 w1 _ k0 ht ad.block (h.out hn ad e) (by
    obtain ⟨_, _, e4, hlt⟩ := h.rd.2.2.lt (by omega)
    rw [e] at e4
    injection e4 with e4
    subst e4
    exact hlt)) he
   exact h3.cutD (by omega)
  have := ih (n - k) (by omega) E1 w1 (l ++ LA) (cutD A c k) (c - k) (ds.drop k) ⟨hst, by rw [List.length_append]; have := h.room; omega, hr1, ho1, by omega, by have := h.cap; omega, by have := h.few; omega, ht.keep.blk (k0.blk h.fb fun h => h) h.fo, hmore E1 w0 w1 _ k0 ht pf h.fo h.fb.lt, ht.keep.blk (k0.blk h.pb fun h => h) h.po, hmore E1 w0 w1 _ k0 ht pp h.po h.pb.lt⟩
  unfold PartPost at this
  rwa [← hDB, ← hLB] at this
 have HHL : Hid (∀ W, Calls Tryz.prog 143 #[.int .i64 n] W fun e w' => e = .returned (.int .i64 (k : Nat)) ∧ w' = W) := H_ fun W => by rw [hk]; exact half_any n W h2 (by have := h.few; omega)
 have hn1 : ((n : Int) == 1) = false := by simp; omega
 obtain ⟨N0, hN0⟩ : ∃ N0, N0 = w.heap.size := ⟨_, rfl⟩
 have HH := H_ h
 have HNE : Hid (¬ E N0) := H_ fun he => by have := h.st.lt _ he; omega
 have HW1 : Hid (Keeps (fun _ => False) w (w.alloc (.cells (List.replicate 32 (Value.int .u8 0)).toArray 23)) ∧ Blk (w.alloc (.cells (List.replicate 32 (Value.int .u8 0)).toArray 23)) N0 23 (List.replicate 32 (Value.int .u8 0))) := H_ ⟨(Keeps.refl _ w).alloc _, by rw [hN0]; exact Blk.new _ _ _⟩
 have HNN := H_ hN0
 have HXX := H_ hX
 have HKN : Hid (0 < k ∧ k < n) := H_ ⟨hs0, hs1⟩
 have HLL : Hid ((l ++ LA ++ LB).length ≤ 1099511627776) := H_ (by rw [List.length_append, List.length_append]; have := h.room; omega)
 rw [← hDV]
 have HDV := H_ hDV
 clear h hX hDV hN0 hmore hla hlb hpd hDA hDB hLA hLB hdl ih hk
 go_enter Tryz.func142, Tryz.ntmps142
 go_upto_region 4 with (go_at_call 143; refine (HHL.out _).mono ?_; rintro e w9 ⟨rfl, hw9⟩; have hw8 := hw9.symm; clear hw9; subst hw8)
 refine gen_codeF (fun W => Keeps (fun _ => False) w W ∧ Blk W N0 23 (List.replicate 32 (Value.int .u8 0))) HW1.out ?_
 rintro w1 ⟨k1, z1⟩
 have hNN := HNN.out
 rw [← hNN]
 clear hNN
 have HK1 := H_ k1
 have HZ1 := H_ z1
 have HT1 := H_ (HH.out.st.stay (tkLasts _) k1)
 have HPB := H_ (k1.blk HH.out.pb fun h => h)
 clear k1 z1
 refine wp_region_held_drew (S := (fun V => V.cell? ⟨pp, 0, none⟩ = some (.func (.func 142) #[] #[.pointer (some ⟨pf, 0, none⟩), .pointer (some ⟨pp, 0, none⟩)]))) (by kernel_rfl) (((Keeps.refl (fun _ => False) w1).drew.blk HPB.out fun h => h).cell 0) (fun h_ => ?_)
 refine tI 0 20 h_ ?_ (hy := .inl ⟨by rfl, by intro w' hSw; have cv := hSw; go_simp; first | done | rfl⟩)
 try simp only [pu]
 refine tI 1 21 h_ ?_
 try simp only [pu]
 refine tI 2 22 h_ ?_
 try simp only [pu]
 refine tI 3 23 h_ ?_
 try simp only [pu]
 refine tI 5 25 h_ ?_ (hy := .inl ⟨by rfl, by intro w' hSw; have cv := hSw; go_simp; first | done | rfl⟩)
 try simp only [pu]
 refine tI 6 26 h_ ?_
 try simp only [pu]
 refine tI 7 27 h_ ?_
 try simp only [pu]
 refine tI 8 28 h_ ?_
 try simp only [pu]
 refine wpAnyH_inv [24, 29, 6, 7] (DTwo (TkSt fv) E 23 w1 4 9 10 11 12 13 24 29 6 7 l (l ++ LA) (l ++ LA ++ LB) (vb DA) (vb DB)) [4, 9, 10, 11, 12, 13] (by kernel_rfl) (by kernel_rfl) (by kernel_rfl) (by decide) (fun _ _ _ h => dtwo_cell h HPB.out HH.out.po) (by kernel_rfl) (by kernel_rfl) (fun _ _ h => DTwo.start (tkLasts _) HT1.out (Keeps.refl (fun _ => False) w1).drew h) ?_ ?_
 rotate_left
 ·refine (AllStepsI.cons (o := ⟨some 24, _, _, _, _, _⟩) [] (by decide) rfl rfl (by kernel_rfl) (fun done f w hJ hn hp hcl a ha K hK => ?_) (AllStepsI.cons (o := ⟨some 29, _, _, _, _, _⟩) [4] (by decide) rfl rfl (by kernel_rfl) (fun done f w hJ hn hp hcl a ha K hK => ?_) (AllStepsI.cons (o := ⟨some 6, _, _, _, _, _⟩) [] (by decide) rfl rfl (by kernel_rfl) (fun done f w hJ hn hp hcl a ha K hK => ?_) (AllStepsI.cons (o := ⟨some 7, _, _, _, _, _⟩) [] (by decide) rfl rfl (by kernel_rfl) (fun done f w hJ hn hp hcl a ha K hK => ?_) (AllStepsI.cons (o := ⟨none, _, _, _, _, _⟩) [4, 9, 10, 11] (by decide) rfl rfl (by kernel_rfl) (fun done f w hJ hn hp hcl a ha K hK => ?_) (AllStepsI.cons (o := ⟨none, _, _, _, _, _⟩) [4, 9, 10, 11, 12] (by decide) rfl rfl (by kernel_rfl) (fun done f w hJ hn hp hcl a ha K hK => ?_) AllStepsI.nil))))))
  ·simp only [actsOf, Act.put, List.setIfInBounds_toArray, List.set_cons_zero, List.set_cons_succ] at ha
   subst ha
   go_simp
   obtain ⟨E1, l1, hJ1⟩ := hJ
   have hst := hJ1.st
   rw [hJ1.z0 hn] at hst
   refine (HC1.out _ HK1.out E1 _ hst).mono ?_
   rintro e v ⟨rfl, E2, hT2⟩
   exact hK.out _ _ (hJ1.got1 hT2 hn (by decide) (by decide))
  ·simp only [actsOf, Act.put, List.setIfInBounds_toArray, List.set_cons_zero, List.set_cons_succ] at ha
   subst ha
   go_simp
   obtain ⟨E1, l1, hJ1⟩ := hJ
   have hst := hJ1.st
   rw [hJ1.z1 (hp 4 (by decide)) hn] at hst
   refine (HC2.out _ HK1.out E1 _ hst).mono ?_
   rintro e v ⟨rfl, E2, hT2⟩
   exact hK.out _ _ (hJ1.got2 hT2 (hp 4 (by decide)) (by decide) (by decide))
  ·simp only [actsOf, Act.put, List.setIfInBounds_toArray, List.set_cons_zero, List.set_cons_succ] at ha
   subst ha
   go_simp
   obtain ⟨E1, l1, hJ1⟩ := hJ
   exact hK.out _ _ (hJ1.made1 (tkLasts _) rfl hn (by decide) (by decide))
  ·simp only [actsOf, Act.put, List.setIfInBounds_toArray, List.set_cons_zero, List.set_cons_succ] at ha
   subst ha
   go_simp
   obtain ⟨E1, l1, hJ1⟩ := hJ
   exact hK.out _ _ (hJ1.made2 (tkLasts _) rfl hn (by decide) (by decide))
  ·obtain ⟨E1, l1, hJ1⟩ := hJ
   obtain ⟨p, cs, e1, hb, _, hl, _⟩ := hJ1.v1 (hp 10 (by decide))
   have e2 := hJ1.c1 (hp 4 (by decide))
   simp only [actsOf, Act.put, List.setIfInBounds_toArray, List.set_cons_zero, List.set_cons_succ, e1, e2] at ha
   subst ha
   refine step_store_whole rfl 23 (.tmp 6) (.tmp 24) rfl (vb DA) rfl rfl hb (by rw [hl, HTA.out]) (infoDg _ HTA.out) (vb_one _) ?_
   exact hK.out undef _ (hJ1.put1 (tkLasts _) HTA.out e1 (hp 4 (by decide)) (hp 10 (by decide)) (by decide))
  ·obtain ⟨E1, l1, hJ1⟩ := hJ
   obtain ⟨p, cs, e1, hb, _, hl, _⟩ := hJ1.v2 (hp 11 (by decide))
   have e2 := hJ1.c2 (hp 9 (by decide))
   simp only [actsOf, Act.put, List.setIfInBounds_toArray, List.set_cons_zero, List.set_cons_succ, e1, e2] at ha
   subst ha
   refine step_store_whole rfl 23 (.tmp 7) (.tmp 29) rfl (vb DB) rfl rfl hb (by rw [hl, HTB.out]) (infoDg _ HTB.out) (vb_one _) ?_
   exact hK.out undef _ (hJ1.put2 (tkLasts _) HTB.out e1 (hp 9 (by decide)) (hp 11 (by decide)) (by decide))
 ·intro done f w4 hJ hall
  obtain ⟨E4, l4, hJ⟩ := hJ
  obtain ⟨p6, X6, e1, hb1, _, _, hne1, g1⟩ := hJ.v1 (hall 10 (by decide))
  obtain ⟨p7, X7, e2, hb2, _, _, hne2, g2⟩ := hJ.v2 (hall 11 (by decide))
  have g1 := g1 (hall 12 (by decide))
  have g2 := g2 (hall 13 (by decide))
  subst g1 g2
  have e3 := hJ.c1 (hall 4 (by decide))
  have e4 := hJ.c2 (hall 9 (by decide))
  have hst := hJ.st
  rw [hJ.z2 (hall 9 (by decide))] at hst
  have HT4 := H_ hst
  have HB4 := H_ (And.intro (And.intro hb1 hne1) (And.intro hb2 hne2))
  simp only [actsOf, Act.put, List.setIfInBounds_toArray, List.set_cons_zero, List.set_cons_succ, e1, e2, e3, e4]
  clear e1 e2 e3 e4 hJ hall hst hb1 hb2 hne1 hne2
  have HTG4 := H_ (HT1.out.next HT4.out)
  have HNE4 : Hid (¬ E4 N0) := H_ fun he => by
   rcases HT4.out.new _ he with h1 | h1
   ·exact HNE.out h1
   ·have := HZ1.out.lt
    omega
  have HZ4 := H_ (HT4.out.keep.blk HZ1.out HNE.out)
  have HPF : Hid (∀ V, Keeps (fun _ => False) w4 V → V.cell? ⟨pf, 0, none⟩ = some fv) := H_ fun V hV => (hV.blk (HT4.out.keep.blk (HK1.out.blk HH.out.fb fun h => h) HH.out.fo) (fun h => h)).cell 0
  have HHA : Hid (∀ W, Keeps (fun _ => False) w4 W → Calls Tryz.prog 138 #[fv, .int .u8 1, .slice (some ⟨W.heap.size, 0, none⟩) 2 2] (W.alloc (.cells #[.slice (some ⟨p6, 0, none⟩) 32 32, .slice (some ⟨p7, 0, none⟩) 32 32] 48)) fun e w' => e = .returned (.agg DV.toArray) ∧ ∃ E', Took (TkSt fv) E4 E' (W.alloc (.cells #[.slice (some ⟨p6, 0, none⟩) 32 32, .slice (some ⟨p7, 0, none⟩) 32 32] 48)) w' (l ++ LA ++ LB ++ [X])) := H_ fun W hW => by
   have hp := parts_two E4 W 48 (some ⟨p6, 0, none⟩) (some ⟨p7, 0, none⟩) 32 32 32 32 DA DB (fun i hi => Nat.lt_of_lt_of_le (HTG4.out.lt i hi) hW.size) HDA.out.1 (Rd.of_blk (hW.blk HB4.out.1.1 fun h => h) HTA.out) (fun _ a e => by injection e with e; subst e; exact HB4.out.1.2) HDA.out.2 (by omega) (by omega) HDB.out.1 (Rd.of_blk (hW.blk HB4.out.2.1 fun h => h) HTB.out) (fun _ a e => by injection e with e; subst e; exact HB4.out.2.2) HDB.out.2 (by omega) (by omega)
   have k1 : Keeps (fun _ => False) w4 (W.alloc (.cells #[.slice (some ⟨p6, 0, none⟩) 32 32, .slice (some ⟨p7, 0, none⟩) 32 32] 48)) := hW.alloc _
   have h2 := hash_any (HTG4.out.stay (tkLasts _) k1) HLL.out 1 (by omega) (some ⟨W.heap.size, 0, none⟩) 2 [DA, DB] hp 2 rfl (by omega) 64 (by simp [HDA.out.1, HDB.out.1]) (by omega)
   have hf : (1 : Int) :: [DA, DB].flatten = X := by rw [HXX.out]; simp [nodeT]
   rw [hf, ← HDV.out] at h2
   exact h2
  go_upto_region 5 with fail
  refine wp_region_tail (S := (fun V => Keeps (fun _ => False) w4 V)) 4 (by kernel_rfl) (Keeps.refl _ _).drew (fun h_ => ?_)
  refine tT [0] (i := 0) (oi := ⟨some 30, _, _, _, _, _⟩) (v := ?_) rfl (Or.inl ⟨by rfl, ?_⟩) h_ ?_
  rotate_left
  ·intro w' hSw
   have cv := HPF.out _ hSw
   go_simp
   first | done | rfl
  try simp only [pu]
  refine tJ 1 31 ?_
  try simp only [pu]
  refine tJ 2 32 ?_
  try simp only [pu]
  refine wpAnyT_step (i := 3) (o := ⟨some 33, _, _, _, _, _⟩) (by kernel_rfl) rfl (fun K hK => ?_)
  go_simp
  refine hK.out _ _ (h_.alloc _) (fun h_ => ?_)
  clear hK K
  try simp only [pu]
  refine wpAnyT_tail (i := 4) (o := ⟨some 34, _, _, _, _, _⟩) (by kernel_rfl) (by kernel_rfl) rfl (fun K hK => ?_)
  go_simp
  refine (HHA.out _ (Keeps.refl (fun _ => False) w4).drew).mono ?_
  rintro e w7 ⟨rfl, E7, hT7⟩
  have HT7 := H_ hT7
  have HZ7 := H_ (hT7.keep.blk (((Keeps.refl (fun _ => False) w4).drew.blk HZ4.out fun h => h).alloc _) HNE4.out)
  have HK7 := H_ ((Keeps.refl (fun _ => False) w4).drew.alloc (.cells #[.slice (some ⟨p6, 0, none⟩) 32 32, .slice (some ⟨p7, 0, none⟩) 32 32] 48))
  refine hK.out _ _ ?_
  clear hK K
  try simp only [pu]
  refine wpAnyT_tail (i := 5) (o := ⟨none, _, _, _, _, _⟩) (by kernel_rfl) (by kernel_rfl) rfl (fun K hK => ?_)
  refine step_store_whole rfl 23 (.tmp 4) (.tmp 34) rfl DV rfl rfl HZ7.out (by rw [HDL.out]; simp) HIN.out HD1.out ?_
  refine hK.out _ _ ?_
  clear hK K
  try simp only [pu]
  refine wpAnyT_done (by kernel_rfl) ?_
  go_wp2
  refine bodyPost_ret (results_blk rfl _ _ rfl (HZ7.out.setRow DV) Tryz.underlying23 rfl HIN.out) rfl ⟨rfl, E7, ?_⟩
  have ht : Took (TkSt fv) E E7 w w7 (l ++ LA ++ LB ++ [X]) := Took.begin HK1.out (HT4.out.trans (Took.begin HK7.out HT7.out))
  rw [List.append_assoc, List.append_assoc] at ht
  refine ht.more (tkLasts _) (setRow_keep _ _ _) fun i hi => ?_
  subst hi
  refine ⟨by have := HNN.out; omega, fun he => ?_⟩
  rcases HT7.out.new _ he with h1 | h1
  ·exact HNE4.out h1
  ·have h2 := HZ4.out.lt
   have h3 := ((Keeps.refl (fun _ => False) w4).drew.alloc (.cells #[.slice (some ⟨p6, 0, none⟩) 32 32, .slice (some ⟨p7, 0, none⟩) 32 32] 48)).size
   omega
theorem part_any {fv : Value} {pf pp : Nat} : ∀ (n : Nat) (E : Nat → Prop) (w : World) (l : List (List Int)) (A : Option Addr) (c : Nat) (ds : List (List Int)), PartIn fv pf pp E w l A n c ds → Calls Tryz.prog 142 #[.slice A n c, .pointer (some ⟨pf, 0, none⟩), .pointer (some ⟨pp, 0, none⟩)] w (PartPost fv E w l ds) := by
 intro n
 induction n using Nat.strongRecOn with
 | _ n ih =>
  intro E w l A c ds h
  by_cases h2 : 2 ≤ n
  ·exact part_more n ih h2 h
  ·have hn : n = 1 := by have := h.pos; omega
   subst hn
   match ds, h.rd.1, h with
   | [d], _, h => exact part_one_ h
theorem fv_cases {fv : Value} {E : Nat → Prop} {w : World} {l : List (List Int)} (h : TkSt fv E w l) : fv = .nilFunc ∨ ∃ p, fv = takeV p := h.imp id fun ⟨p, e, _⟩ => ⟨p, e⟩
theorem row_nil {E : Nat → Prop} {w : World} {l : List (List Int)} (hT : Tkg (TkSt .nilFunc) E w l) (A : Option Addr) (n c : Nat) (ds : List (List Int)) (hr : RdD w A n ds) (ho : Out E A n) (hc : n ≤ c) (hn : n ≤ 1099511627776) (hl : l.length + 2 * n + 1 ≤ 1099511627776) :
  Calls Tryz.prog 70 #[.nilFunc, .slice A n c] w fun e w' => e = .returned (.agg (vb (rowD ds)).toArray) ∧ ∃ E', Took (TkSt .nilFunc) E E' w w' (l ++ allTx ds) := by
 obtain ⟨N, hN⟩ : ∃ N, N = w.heap.size := ⟨_, rfl⟩
 have HW0 : Hid (Keeps (fun _ => False) w (((w.alloc (.cells #[.nilFunc] 160)).alloc (.cells (List.replicate 32 (Value.int .u8 0)).toArray 23)).alloc (.cells #[.nilFunc] 163)) ∧ Blk (((w.alloc (.cells #[.nilFunc] 160)).alloc (.cells (List.replicate 32 (Value.int .u8 0)).toArray 23)).alloc (.cells #[.nilFunc] 163)) N 160 [.nilFunc] ∧
   Blk (((w.alloc (.cells #[.nilFunc] 160)).alloc (.cells (List.replicate 32 (Value.int .u8 0)).toArray 23)).alloc (.cells #[.nilFunc] 163)) (N + 1) 23 (List.replicate 32 (Value.int .u8 0)) ∧ Blk (((w.alloc (.cells #[.nilFunc] 160)).alloc (.cells (List.replicate 32 (Value.int .u8 0)).toArray 23)).alloc (.cells #[.nilFunc] 163)) (N + 2) 163 [.nilFunc]) := H_ (by
  refine ⟨((((Keeps.refl (fun _ => False) w).alloc _).alloc _).alloc _), ?_, ?_, ?_⟩
  ·have h := ((Blk.new w 160 [.nilFunc]).alloc (.cells (List.replicate 32 (Value.int .u8 0)).toArray 23)).alloc (.cells #[.nilFunc] 163)
   rwa [← hN] at h
  ·have h := (Blk.new (w.alloc (.cells #[.nilFunc] 160)) 23 (List.replicate 32 (Value.int .u8 0))).alloc (.cells #[.nilFunc] 163)
   rwa [World.size_alloc, ← hN] at h
  ·have h := Blk.new ((w.alloc (.cells #[.nilFunc] 160)).alloc (.cells (List.replicate 32 (Value.int .u8 0)).toArray 23)) 163 [.nilFunc]
   rwa [World.size_alloc, World.size_alloc, ← hN] at h)
 obtain ⟨DV, hDV⟩ : ∃ DV, DV = vb (rowD ds) := ⟨_, rfl⟩
 have HD1 : Hid (∀ u ∈ DV, u.oneCell' = true) := H_ (by rw [hDV]; exact vb_one _)
 have HDL : Hid (DV.length = 32) := H_ (by rw [hDV, vb_length]; exact rowD_len _)
 have HIN : Hid ((Tryz.prog.info? 23).map (·.size) = some DV.length) := H_ (infoDg DV HDL.out)
 obtain ⟨LL, hLL⟩ : ∃ LL, LL = l ++ allTx ds := ⟨_, rfl⟩
 rw [← hDV, ← hLL]
 have HX := H_ (And.intro hT (And.intro hr (And.intro ho (And.intro hc (And.intro hDV (And.intro hLL hN))))))
 have HB := H_ (And.intro hn hl)
 clear hT hr ho hDV hLL hN hl
 by_cases h0 : n = 0
 ·subst h0
  have hn0 : (((0 : Nat) : Int) == 0) = true := rfl
  go_enter Tryz.func70, Tryz.ntmps70
  go_upto_region 2 with fail
  refine gen_codeF (fun W => Keeps (fun _ => False) w W ∧ Blk W N 160 [.nilFunc] ∧ Blk W (N + 1) 23 (List.replicate 32 (Value.int .u8 0)) ∧ Blk W (N + 2) 163 [.nilFunc]) HW0.out ?_
  rintro w0 ⟨k0, b0, b1, b2⟩
  have hNN := HX.out.2.2.2.2.2.2
  rw [← hNN]
  obtain ⟨N2, hN2⟩ : ∃ N2, N2 = N + 1 + 1 := ⟨_, rfl⟩
  rw [← hN2]
  obtain ⟨w3, hw3⟩ : ∃ w3, w3 = w0.setCell ⟨N2, 0, none⟩ (.func (.func 142) #[] #[.pointer (some ⟨N, 0, none⟩), .pointer (some ⟨N2, 0, none⟩)]) := ⟨_, rfl⟩
  have hk3 : Keeps (fun _ => False) w w3 := by
   rw [hw3]
   exact k0.setCell (p := ⟨N2, 0, none⟩) (.inr (by show w.heap.size ≤ N2; omega)) _
  have c0 : Blk w3 N 160 [.nilFunc] := by rw [hw3]; exact b0.far (by show N ≠ N2; omega) _
  have c1 : Blk w3 (N + 1) 23 (List.replicate 32 (Value.int .u8 0)) := by rw [hw3]; exact b1.far (by show N + 1 ≠ N2; omega) _
  have b3 : Blk w0 N2 163 [.nilFunc] := by rw [hN2]; exact b2
  have c2 : Blk w3 N2 163 [partV N N2] := by rw [hw3]; exact b3.set_ 0 _
  have x2 : w0.cell? ⟨N2, 0, none⟩ = some .nilFunc := b3.cell 0
  have f2 : w0.frozen? ⟨N2, 0, none⟩ = false := b3.frozen 0
  have hT3 := HX.out.1.stay (tkLasts _) hk3
  have hne : ∀ i, N ≤ i → ¬ E i := fun i hi he => by have := HX.out.1.lt i he; omega
  have HEND : Hid (∀ (w' : World) (E' : Nat → Prop), Took (TkSt .nilFunc) E E' w3 w' LL → Blk w' (N + 1) 23 (List.replicate 32 (Value.int .u8 0)) ∧ Took (TkSt .nilFunc) E E' w (w'.setRow (N + 1) DV.toArray) LL) := H_ fun w' E' ht => by
   refine ⟨ht.keep.blk c1 (hne _ (by omega)), (Took.begin hk3 ht).more (tkLasts _) (setRow_keep _ _ _) fun i hi => ?_⟩
   subst hi
   refine ⟨by omega, fun he => ?_⟩
   rcases ht.new _ he with h | h
   ·exact hne _ (by omega) h
   ·have := c1.lt; omega
  have HHA : Hid (Calls Tryz.prog 138 #[.nilFunc, .int .u8 101, .slice none 0 0] w3 fun e w' => e = .returned (.agg DV.toArray) ∧ ∃ E', Took (TkSt .nilFunc) E E' w3 w' LL) := H_ (by
   obtain ⟨_, hr, _, _, hDV, hLL, _⟩ := HX.out
   have hds : ds = [] := List.eq_nil_of_length_eq_zero hr.1
   have h := hash_any hT3 (by have := HB.out; omega) 101 (by omega) none 0 [] ⟨[], Rd.nil _ _, fun h => absurd h (by simp), fun i bs h => by simp at h⟩ 0 rfl (by omega) 0 rfl (by omega)
   have e1 : (101 : Int) :: ([] : List (List Int)).flatten = [101] := rfl
   have e2 : allTx ds = [[101]] := by rw [hds]; rfl
   have e3 : rowD ds = hsh [101] := by rw [hds, rowD_nil]
   rw [e1] at h
   rw [hLL, e2, hDV, e3]
   exact h)
  have cF := c0.cell 0
  have HW3 := H_ hw3
  skip
  clear hk3 b0 b1 b2 b3 c0 c1 c2 hT3 hne hNN hN2
  rw [hw3] at cF HEND HHA
  clear hw3
  go_wp2_with (first
   | (go_at_call 138; refine HHA.out.mono ?_; rintro e w6 ⟨rfl, E6, hT6⟩; have HT6 := H_ (HEND.out w6 E6 hT6); clear hT6)
   | ((with_reducible show wpList _ _ _ (⟨none, Op.store 23 _ _, _, _, _, _⟩ :: _) _ _); refine wpList_store_whole rfl 23 _ _ rfl DV rfl rfl HT6.out.1 (by rw [HDL.out]; simp) HIN.out HD1.out ?_))
  exact bodyPost_ret (results_blk rfl _ _ rfl (HT6.out.1.setRow DV) Tryz.underlying23 rfl HIN.out) rfl ⟨rfl, E6, HT6.out.2⟩
 ·have hn0 : ((n : Int) == 0) = false := by simp; omega
  go_enter Tryz.func70, Tryz.ntmps70
  go_upto_region 2 with fail
  refine gen_codeF (fun W => Keeps (fun _ => False) w W ∧ Blk W N 160 [.nilFunc] ∧ Blk W (N + 1) 23 (List.replicate 32 (Value.int .u8 0)) ∧ Blk W (N + 2) 163 [.nilFunc]) HW0.out ?_
  rintro w0 ⟨k0, b0, b1, b2⟩
  have hNN := HX.out.2.2.2.2.2.2
  rw [← hNN]
  obtain ⟨N2, hN2⟩ : ∃ N2, N2 = N + 1 + 1 := ⟨_, rfl⟩
  rw [← hN2]
  obtain ⟨w3, hw3⟩ : ∃ w3, w3 = w0.setCell ⟨N2, 0, none⟩ (.func (.func 142) #[] #[.pointer (some ⟨N, 0, none⟩), .pointer (some ⟨N2, 0, none⟩)]) := ⟨_, rfl⟩
  have hk3 : Keeps (fun _ => False) w w3 := by
   rw [hw3]
   exact k0.setCell (p := ⟨N2, 0, none⟩) (.inr (by show w.heap.size ≤ N2; omega)) _
  have c0 : Blk w3 N 160 [.nilFunc] := by rw [hw3]; exact b0.far (by show N ≠ N2; omega) _
  have c1 : Blk w3 (N + 1) 23 (List.replicate 32 (Value.int .u8 0)) := by rw [hw3]; exact b1.far (by show N + 1 ≠ N2; omega) _
  have b3 : Blk w0 N2 163 [.nilFunc] := by rw [hN2]; exact b2
  have c2 : Blk w3 N2 163 [partV N N2] := by rw [hw3]; exact b3.set_ 0 _
  have x2 : w0.cell? ⟨N2, 0, none⟩ = some .nilFunc := b3.cell 0
  have f2 : w0.frozen? ⟨N2, 0, none⟩ = false := b3.frozen 0
  have hT3 := HX.out.1.stay (tkLasts _) hk3
  have hne : ∀ i, N ≤ i → ¬ E i := fun i hi he => by have := HX.out.1.lt i he; omega
  have HEND : Hid (∀ (w' : World) (E' : Nat → Prop), Took (TkSt .nilFunc) E E' w3 w' LL → Blk w' (N + 1) 23 (List.replicate 32 (Value.int .u8 0)) ∧ Took (TkSt .nilFunc) E E' w (w'.setRow (N + 1) DV.toArray) LL) := H_ fun w' E' ht => by
   refine ⟨ht.keep.blk c1 (hne _ (by omega)), (Took.begin hk3 ht).more (tkLasts _) (setRow_keep _ _ _) fun i hi => ?_⟩
   subst hi
   refine ⟨by omega, fun he => ?_⟩
   rcases ht.new _ he with h | h
   ·exact hne _ (by omega) h
   ·have := c1.lt; omega
  have HHA : Hid (Calls Tryz.prog 142 #[.slice A n c, .pointer (some ⟨N, 0, none⟩), .pointer (some ⟨N2, 0, none⟩)] w3 fun e w' => e = .returned (.agg DV.toArray) ∧ ∃ E', Took (TkSt .nilFunc) E E' w3 w' LL) := H_ (by
   obtain ⟨_, hr, ho, hc, hDV, hLL, _⟩ := HX.out
   have h := part_any n E w3 l A c ds ⟨hT3, by have := HB.out; omega, hr.keep hk3 (no_out _ _), ho, by omega, hc, HB.out.1, c0, hne _ (by omega), c2, hne _ (by omega)⟩
   unfold PartPost at h
   have e2 : allTx ds = rowTx ds := allTx_ne (by rintro rfl; exact h0 (by rw [← hr.1]; rfl))
   rw [hLL, e2, hDV]
   exact h)
  have cP : w3.cell? ⟨N2, 0, none⟩ = some (.func (.func 142) #[] #[.pointer (some ⟨N, 0, none⟩), .pointer (some ⟨N2, 0, none⟩)]) := c2.cell 0
  have HW3 := H_ hw3
  skip
  clear hk3 b0 b1 b2 b3 c0 c1 c2 hT3 hne hNN hN2
  rw [hw3] at cP HEND HHA
  clear hw3
  go_wp2_with (first
   | (go_at_call 142; refine HHA.out.mono ?_; rintro e w6 ⟨rfl, E6, hT6⟩; have HT6 := H_ (HEND.out w6 E6 hT6); clear hT6)
   | ((with_reducible show wpList _ _ _ (⟨none, Op.store 23 _ _, _, _, _, _⟩ :: _) _ _); refine wpList_store_whole rfl 23 _ _ rfl DV rfl rfl HT6.out.1 (by rw [HDL.out]; simp) HIN.out HD1.out ?_))
  exact bodyPost_ret (results_blk rfl _ _ rfl (HT6.out.1.setRow DV) Tryz.underlying23 rfl HIN.out) rfl ⟨rfl, E6, HT6.out.2⟩
theorem row_take (p : Nat) {E : Nat → Prop} {w : World} {l : List (List Int)} (hT : Tkg (TkSt (takeV p)) E w l) (A : Option Addr) (n c : Nat) (ds : List (List Int)) (hr : RdD w A n ds) (ho : Out E A n) (hc : n ≤ c) (hn : n ≤ 1099511627776) (hl : l.length + 2 * n + 1 ≤ 1099511627776) :
  Calls Tryz.prog 70 #[(takeV p), .slice A n c] w fun e w' => e = .returned (.agg (vb (rowD ds)).toArray) ∧ ∃ E', Took (TkSt (takeV p)) E E' w w' (l ++ allTx ds) := by
 obtain ⟨N, hN⟩ : ∃ N, N = w.heap.size := ⟨_, rfl⟩
 have HW0 : Hid (Keeps (fun _ => False) w (((w.alloc (.cells #[(takeV p)] 160)).alloc (.cells (List.replicate 32 (Value.int .u8 0)).toArray 23)).alloc (.cells #[.nilFunc] 163)) ∧ Blk (((w.alloc (.cells #[(takeV p)] 160)).alloc (.cells (List.replicate 32 (Value.int .u8 0)).toArray 23)).alloc (.cells #[.nilFunc] 163)) N 160 [(takeV p)] ∧
   Blk (((w.alloc (.cells #[(takeV p)] 160)).alloc (.cells (List.replicate 32 (Value.int .u8 0)).toArray 23)).alloc (.cells #[.nilFunc] 163)) (N + 1) 23 (List.replicate 32 (Value.int .u8 0)) ∧ Blk (((w.alloc (.cells #[(takeV p)] 160)).alloc (.cells (List.replicate 32 (Value.int .u8 0)).toArray 23)).alloc (.cells #[.nilFunc] 163)) (N + 2) 163 [.nilFunc]) := H_ (by
  refine ⟨((((Keeps.refl (fun _ => False) w).alloc _).alloc _).alloc _), ?_, ?_, ?_⟩
  ·have h := ((Blk.new w 160 [(takeV p)]).alloc (.cells (List.replicate 32 (Value.int .u8 0)).toArray 23)).alloc (.cells #[.nilFunc] 163)
   rwa [← hN] at h
  ·have h := (Blk.new (w.alloc (.cells #[(takeV p)] 160)) 23 (List.replicate 32 (Value.int .u8 0))).alloc (.cells #[.nilFunc] 163)
   rwa [World.size_alloc, ← hN] at h
  ·have h := Blk.new ((w.alloc (.cells #[(takeV p)] 160)).alloc (.cells (List.replicate 32 (Value.int .u8 0)).toArray 23)) 163 [.nilFunc]
   rwa [World.size_alloc, World.size_alloc, ← hN] at h)
 obtain ⟨DV, hDV⟩ : ∃ DV, DV = vb (rowD ds) := ⟨_, rfl⟩
 have HD1 : Hid (∀ u ∈ DV, u.oneCell' = true) := H_ (by rw [hDV]; exact vb_one _)
 have HDL : Hid (DV.length = 32) := H_ (by rw [hDV, vb_length]; exact rowD_len _)
 have HIN : Hid ((Tryz.prog.info? 23).map (·.size) = some DV.length) := H_ (infoDg DV HDL.out)
 obtain ⟨LL, hLL⟩ : ∃ LL, LL = l ++ allTx ds := ⟨_, rfl⟩
 rw [← hDV, ← hLL]
 have HX := H_ (And.intro hT (And.intro hr (And.intro ho (And.intro hc (And.intro hDV (And.intro hLL hN))))))
 have HB := H_ (And.intro hn hl)
 clear hT hr ho hDV hLL hN hl
 by_cases h0 : n = 0
 ·subst h0
  have hn0 : (((0 : Nat) : Int) == 0) = true := rfl
  go_enter Tryz.func70, Tryz.ntmps70
  go_upto_region 2 with fail
  refine gen_codeF (fun W => Keeps (fun _ => False) w W ∧ Blk W N 160 [(takeV p)] ∧ Blk W (N + 1) 23 (List.replicate 32 (Value.int .u8 0)) ∧ Blk W (N + 2) 163 [.nilFunc]) HW0.out ?_
  rintro w0 ⟨k0, b0, b1, b2⟩
  have hNN := HX.out.2.2.2.2.2.2
  rw [← hNN]
  obtain ⟨N2, hN2⟩ : ∃ N2, N2 = N + 1 + 1 := ⟨_, rfl⟩
  rw [← hN2]
  obtain ⟨w3, hw3⟩ : ∃ w3, w3 = w0.setCell ⟨N2, 0, none⟩ (.func (.func 142) #[] #[.pointer (some ⟨N, 0, none⟩), .pointer (some ⟨N2, 0, none⟩)]) := ⟨_, rfl⟩
  have hk3 : Keeps (fun _ => False) w w3 := by
   rw [hw3]
   exact k0.setCell (p := ⟨N2, 0, none⟩) (.inr (by show w.heap.size ≤ N2; omega)) _
  have c0 : Blk w3 N 160 [(takeV p)] := by rw [hw3]; exact b0.far (by show N ≠ N2; omega) _
  have c1 : Blk w3 (N + 1) 23 (List.replicate 32 (Value.int .u8 0)) := by rw [hw3]; exact b1.far (by show N + 1 ≠ N2; omega) _
  have b3 : Blk w0 N2 163 [.nilFunc] := by rw [hN2]; exact b2
  have c2 : Blk w3 N2 163 [partV N N2] := by rw [hw3]; exact b3.set_ 0 _
  have x2 : w0.cell? ⟨N2, 0, none⟩ = some .nilFunc := b3.cell 0
  have f2 : w0.frozen? ⟨N2, 0, none⟩ = false := b3.frozen 0
  have hT3 := HX.out.1.stay (tkLasts _) hk3
  have hne : ∀ i, N ≤ i → ¬ E i := fun i hi he => by have := HX.out.1.lt i he; omega
  have HEND : Hid (∀ (w' : World) (E' : Nat → Prop), Took (TkSt (takeV p)) E E' w3 w' LL → Blk w' (N + 1) 23 (List.replicate 32 (Value.int .u8 0)) ∧ Took (TkSt (takeV p)) E E' w (w'.setRow (N + 1) DV.toArray) LL) := H_ fun w' E' ht => by
   refine ⟨ht.keep.blk c1 (hne _ (by omega)), (Took.begin hk3 ht).more (tkLasts _) (setRow_keep _ _ _) fun i hi => ?_⟩
   subst hi
   refine ⟨by omega, fun he => ?_⟩
   rcases ht.new _ he with h | h
   ·exact hne _ (by omega) h
   ·have := c1.lt; omega
  have HHA : Hid (Calls Tryz.prog 138 #[(takeV p), .int .u8 101, .slice none 0 0] w3 fun e w' => e = .returned (.agg DV.toArray) ∧ ∃ E', Took (TkSt (takeV p)) E E' w3 w' LL) := H_ (by
   obtain ⟨_, hr, _, _, hDV, hLL, _⟩ := HX.out
   have hds : ds = [] := List.eq_nil_of_length_eq_zero hr.1
   have h := hash_any hT3 (by have := HB.out; omega) 101 (by omega) none 0 [] ⟨[], Rd.nil _ _, fun h => absurd h (by simp), fun i bs h => by simp at h⟩ 0 rfl (by omega) 0 rfl (by omega)
   have e1 : (101 : Int) :: ([] : List (List Int)).flatten = [101] := rfl
   have e2 : allTx ds = [[101]] := by rw [hds]; rfl
   have e3 : rowD ds = hsh [101] := by rw [hds, rowD_nil]
   rw [e1] at h
   rw [hLL, e2, hDV, e3]
   exact h)
  have cF := c0.cell 0
  have HW3 := H_ hw3
  skip
  clear hk3 b0 b1 b2 b3 c0 c1 c2 hT3 hne hNN hN2
  rw [hw3] at cF HEND HHA
  clear hw3
  go_wp2_with (first
   | (go_at_call 138; refine HHA.out.mono ?_; rintro e w6 ⟨rfl, E6, hT6⟩; have HT6 := H_ (HEND.out w6 E6 hT6); clear hT6)
   | ((with_reducible show wpList _ _ _ (⟨none, Op.store 23 _ _, _, _, _, _⟩ :: _) _ _); refine wpList_store_whole rfl 23 _ _ rfl DV rfl rfl HT6.out.1 (by rw [HDL.out]; simp) HIN.out HD1.out ?_))
  exact bodyPost_ret (results_blk rfl _ _ rfl (HT6.out.1.setRow DV) Tryz.underlying23 rfl HIN.out) rfl ⟨rfl, E6, HT6.out.2⟩
 ·have hn0 : ((n : Int) == 0) = false := by simp; omega
  go_enter Tryz.func70, Tryz.ntmps70
  go_upto_region 2 with fail
  refine gen_codeF (fun W => Keeps (fun _ => False) w W ∧ Blk W N 160 [(takeV p)] ∧ Blk W (N + 1) 23 (List.replicate 32 (Value.int .u8 0)) ∧ Blk W (N + 2) 163 [.nilFunc]) HW0.out ?_
  rintro w0 ⟨k0, b0, b1, b2⟩
  have hNN := HX.out.2.2.2.2.2.2
  rw [← hNN]
  obtain ⟨N2, hN2⟩ : ∃ N2, N2 = N + 1 + 1 := ⟨_, rfl⟩
  rw [← hN2]
  obtain ⟨w3, hw3⟩ : ∃ w3, w3 = w0.setCell ⟨N2, 0, none⟩ (.func (.func 142) #[] #[.pointer (some ⟨N, 0, none⟩), .pointer (some ⟨N2, 0, none⟩)]) := ⟨_, rfl⟩
  have hk3 : Keeps (fun _ => False) w w3 := by
   rw [hw3]
   exact k0.setCell (p := ⟨N2, 0, none⟩) (.inr (by show w.heap.size ≤ N2; omega)) _
  have c0 : Blk w3 N 160 [(takeV p)] := by rw [hw3]; exact b0.far (by show N ≠ N2; omega) _
  have c1 : Blk w3 (N + 1) 23 (List.replicate 32 (Value.int .u8 0)) := by rw [hw3]; exact b1.far (by show N + 1 ≠ N2; omega) _
  have b3 : Blk w0 N2 163 [.nilFunc] := by rw [hN2]; exact b2
  have c2 : Blk w3 N2 163 [partV N N2] := by rw [hw3]; exact b3.set_ 0 _
  have x2 : w0.cell? ⟨N2, 0, none⟩ = some .nilFunc := b3.cell 0
  have f2 : w0.frozen? ⟨N2, 0, none⟩ = false := b3.frozen 0
  have hT3 := HX.out.1.stay (tkLasts _) hk3
  have hne : ∀ i, N ≤ i → ¬ E i := fun i hi he => by have := HX.out.1.lt i he; omega
  have HEND : Hid (∀ (w' : World) (E' : Nat → Prop), Took (TkSt (takeV p)) E E' w3 w' LL → Blk w' (N + 1) 23 (List.replicate 32 (Value.int .u8 0)) ∧ Took (TkSt (takeV p)) E E' w (w'.setRow (N + 1) DV.toArray) LL) := H_ fun w' E' ht => by
   refine ⟨ht.keep.blk c1 (hne _ (by omega)), (Took.begin hk3 ht).more (tkLasts _) (setRow_keep _ _ _) fun i hi => ?_⟩
   subst hi
   refine ⟨by omega, fun he => ?_⟩
   rcases ht.new _ he with h | h
   ·exact hne _ (by omega) h
   ·have := c1.lt; omega
  have HHA : Hid (Calls Tryz.prog 142 #[.slice A n c, .pointer (some ⟨N, 0, none⟩), .pointer (some ⟨N2, 0, none⟩)] w3 fun e w' => e = .returned (.agg DV.toArray) ∧ ∃ E', Took (TkSt (takeV p)) E E' w3 w' LL) := H_ (by
   obtain ⟨_, hr, ho, hc, hDV, hLL, _⟩ := HX.out
   have h := part_any n E w3 l A c ds ⟨hT3, by have := HB.out; omega, hr.keep hk3 (no_out _ _), ho, by omega, hc, HB.out.1, c0, hne _ (by omega), c2, hne _ (by omega)⟩
   unfold PartPost at h
   have e2 : allTx ds = rowTx ds := allTx_ne (by rintro rfl; exact h0 (by rw [← hr.1]; rfl))
   rw [hLL, e2, hDV]
   exact h)
  have cP : w3.cell? ⟨N2, 0, none⟩ = some (.func (.func 142) #[] #[.pointer (some ⟨N, 0, none⟩), .pointer (some ⟨N2, 0, none⟩)]) := c2.cell 0
  have HW3 := H_ hw3
  skip
  clear hk3 b0 b1 b2 b3 c0 c1 c2 hT3 hne hNN hN2
  rw [hw3] at cP HEND HHA
  clear hw3
  go_wp2_with (first
   | (go_at_call 142; refine HHA.out.mono ?_; rintro e w6 ⟨rfl, E6, hT6⟩; have HT6 := H_ (HEND.out w6 E6 hT6); clear hT6)
   | ((with_reducible show wpList _ _ _ (⟨none, Op.store 23 _ _, _, _, _, _⟩ :: _) _ _); refine wpList_store_whole rfl 23 _ _ rfl DV rfl rfl HT6.out.1 (by rw [HDL.out]; simp) HIN.out HD1.out ?_))
  exact bodyPost_ret (results_blk rfl _ _ rfl (HT6.out.1.setRow DV) Tryz.underlying23 rfl HIN.out) rfl ⟨rfl, E6, HT6.out.2⟩
theorem row_any {fv : Value} {E : Nat → Prop} {w : World} {l : List (List Int)} (hT : Tkg (TkSt fv) E w l) (A : Option Addr) (n c : Nat) (ds : List (List Int)) (hr : RdD w A n ds) (ho : Out E A n) (hc : n ≤ c) (hn : n ≤ 1099511627776) (hl : l.length + 2 * n + 1 ≤ 1099511627776) :
  Calls Tryz.prog 70 #[fv, .slice A n c] w fun e w' => e = .returned (.agg (vb (rowD ds)).toArray) ∧ ∃ E', Took (TkSt fv) E E' w w' (l ++ allTx ds) := by
 rcases fv_cases hT.st with h | ⟨p, h⟩
 ·subst h; exact row_nil hT A n c ds hr ho hc hn hl
 ·subst h; exact row_take p hT A n c ds hr ho hc hn hl
end Go.Proofs.YtplleficmkfniaaGreatDoor
