/-
  A ROW OF ROWS OF BYTES of the call's own: its slices lie in blocks newer than the call, apart from the row itself; append to it.
-/
import Derived.Test.YtknecjjdegngfaaDoorTailK
import Derived.Test.YtknecjjdegngfaaDoorAppendW
set_option linter.unusedSimpArgs false
namespace Go.Aff
open Go Go.RowKit
/-- Rows of bytes as slices vals, newer than w0, outside F. -/
def ElemsR (w0 wr : World) (F : Nat → Prop) (rs : List (List Int)) (vals : List Value) : Prop :=
  vals.length = rs.length ∧ ∀ (i : Nat) (bs : List Int), rs[i]? = some bs → ∃ A' c', vals[i]? = some (Value.slice A' bs.length c') ∧ Rd wr A' bs.length (vb bs) ∧ Out F A' bs.length ∧ (∀ ad, A' = some ad → w0.heap.size ≤ ad.block) ∧ IsBytes bs ∧ bs.length ≤ c' ∧ bs.length ≤ 140737488351232
def MineP (w wr : World) (T : TypeId) (B : Option Addr) (m c : Nat) (rs : List (List Int)) : Prop :=
  rs.length = m ∧ ∃ vals, Mine w wr T B m c vals ∧ ElemsR w wr (fun i => (Value.slice B m c).ownBlock = some i) rs vals
theorem ElemsR.keep {w0 wr w' : World} {F G : Nat → Prop} {rs : List (List Int)} {vals : List Value} (h : ElemsR w0 wr F rs vals) (hk : Keeps G wr w') (hG : ∀ i, w0.heap.size ≤ i → G i → F i) : ElemsR w0 w' F rs vals :=
  ⟨h.1, fun i bs hi => by
    obtain ⟨A', c', h1, h2, h3, h4, h5⟩ := h.2 i bs hi
    exact ⟨A', c', h1, h2.keep hk (fun hn ad e hg => h3 hn ad e (hG _ (h4 ad e) hg)), h3, h4, h5⟩⟩
theorem ElemsR.lt {w0 wr : World} {F : Nat → Prop} {rs : List (List Int)} {vals : List Value} (h : ElemsR w0 wr F rs vals) {G : Nat → Prop} (hG : ∀ i, i < wr.heap.size → G i → F i) : ElemsR w0 wr G rs vals :=
  ⟨h.1, fun i bs hi => by
    obtain ⟨A', c', h1, h2, h3, h4, h5⟩ := h.2 i bs hi
    refine ⟨A', c', h1, h2, fun hn ad e hg => ?_, h4, h5⟩
    obtain ⟨g, o, e1, hlt⟩ := h2.lt hn
    rw [e1] at e
    injection e with e
    subst e
    exact h3 hn _ e1 (hG _ hlt hg)⟩
theorem ElemsR.base {w0 w1 wr : World} {F : Nat → Prop} {rs : List (List Int)} {vals : List Value} (h : ElemsR w1 wr F rs vals) (hle : w0.heap.size ≤ w1.heap.size) : ElemsR w0 wr F rs vals :=
  ⟨h.1, fun i bs hi => by
    obtain ⟨A', c', h1, h2, h3, h4, h5⟩ := h.2 i bs hi
    exact ⟨A', c', h1, h2, h3, fun ad e => Nat.le_trans hle (h4 ad e), h5⟩⟩
theorem ElemsR.app {w0 wr : World} {F : Nat → Prop} {rs rs' : List (List Int)} {vals vals' : List Value} (h : ElemsR w0 wr F rs vals) (h' : ElemsR w0 wr F rs' vals') : ElemsR w0 wr F (rs ++ rs') (vals ++ vals') :=
  ⟨by rw [List.length_append, List.length_append, h.1, h'.1], fun i bs hi => by
    rcases Nat.lt_or_ge i rs.length with hlt | hge
    · rw [List.getElem?_append_left hlt] at hi
      obtain ⟨A', c', h1, h2⟩ := h.2 i bs hi
      exact ⟨A', c', by rw [List.getElem?_append_left (by rw [h.1]; exact hlt)]; exact h1, h2⟩
    · rw [List.getElem?_append_right hge] at hi
      obtain ⟨A', c', h1, h2⟩ := h'.2 _ bs hi
      exact ⟨A', c', by rw [List.getElem?_append_right (by rw [h.1]; exact hge), h.1]; exact h1, h2⟩⟩
theorem ElemsR.one {w0 wr : World} {F : Nat → Prop} {A : Option Addr} {n c : Nat} {bs : List Int} (hr : Rd wr A n (vb bs)) (hn : bs.length = n) (ho : Out F A n) (hf : ∀ ad, A = some ad → w0.heap.size ≤ ad.block) (hb : IsBytes bs) (hc : n ≤ c) (hm : n ≤ 140737488351232) : ElemsR w0 wr F [bs] [.slice A n c] :=
  ⟨rfl, fun i b hi => by
    have h0 : i = 0 := by have := (List.getElem?_eq_some_iff.1 hi).1; simpa using this
    subst h0
    have : b = bs := by simpa using hi.symm
    subst this
    subst hn
    exact ⟨A, c, rfl, hr, ho, hf, hb, hc, hm⟩⟩
/-- A row of the call's own as the one part of it. -/
theorem ElemsR.mine {w0 w1 wr : World} {e : TypeId} {A : Option Addr} {n c : Nat} {bs : List Int} (h : Mine w1 wr e A n c (vb bs)) (h0 : w0.heap.size ≤ w1.heap.size) (hn : bs.length = n) (hb : IsBytes bs) (hm : n ≤ 140737488351232) : ElemsR w0 wr (fun _ => False) [bs] [.slice A n c] := by
  have hc : n ≤ c := own_le h.1
  refine ElemsR.one (Rd.of_own h.1) hn (fun _ _ _ h => h) (fun ad e => ?_) hb hc hm
  subst e
  have := h.2.2 ad.block (own_addr h.1)
  omega
theorem MineP.nil (w : World) (T : TypeId) : MineP w w T none 0 0 [] :=
  ⟨rfl, [], ⟨World.ownsRow_nil _ _ _ _, Keeps.refl _ _, fun g h => by cases h⟩, rfl, fun i bs h => by simp at h⟩
theorem MineP.keep {w wr w' : World} {T : TypeId} {B : Option Addr} {m c : Nat} {rs : List (List Int)} (h : MineP w wr T B m c rs) (hk : Keeps (fun _ => False) wr w') : MineP w w' T B m c rs := by
  obtain ⟨hl, vals, h1, h2⟩ := h
  exact ⟨hl, vals, h1.keep hk, h2.keep hk (fun _ _ h => h.elim)⟩
theorem MineP.keeps {w wr : World} {T : TypeId} {B : Option Addr} {m c : Nat} {rs : List (List Int)} (h : MineP w wr T B m c rs) : Keeps (fun _ => False) w wr := by
  obtain ⟨hl, vals, h1, h2⟩ := h
  exact h1.2.1
theorem MineP.le {w wr : World} {T : TypeId} {B : Option Addr} {m c : Nat} {rs : List (List Int)} (h : MineP w wr T B m c rs) : m ≤ c := by
  obtain ⟨hl, vals, h1, h2⟩ := h
  exact own_le h1.1
theorem MineP.base {w w1 wr : World} {T : TypeId} {B : Option Addr} {m c : Nat} {rs : List (List Int)} (h : MineP w1 wr T B m c rs) (hk : Keeps (fun _ => False) w w1) : MineP w wr T B m c rs := by
  obtain ⟨hl, vals, h1, h2⟩ := h
  exact ⟨hl, vals, ⟨h1.1, hk.trans h1.2.1 (fun _ _ h => h), fun g e => Nat.le_trans hk.size (h1.2.2 g e)⟩, h2.base hk.size⟩
/-- .. and a write to a block that is older than the row, and newer than the call. -/
theorem MineP.out {w w1 wr w' : World} {T : TypeId} {B : Option Addr} {m c : Nat} {rs : List (List Int)} {F : Nat → Prop} (h : MineP w1 wr T B m c rs) (hk : Keeps (fun _ => False) w w1) (hw : Keeps F wr w') (h0 : ∀ g, F g → w.heap.size ≤ g) (h1 : ∀ g, F g → g < w1.heap.size) : MineP w w' T B m c rs := by
  obtain ⟨hl, vals, m1, m2⟩ := h
  refine ⟨hl, vals, ⟨hw.own m1.1 (fun g e hF => by have := m1.2.2 g e; have := h1 g hF; omega), ?_, fun g e => Nat.le_trans hk.size (m1.2.2 g e)⟩, ?_⟩
  · exact (hk.trans m1.2.1 (fun _ _ h => h)).trans hw (fun i hi hF => by have := h0 i hF; omega)
  · refine (m2.keep (G := F) ((hw.mono fun i _ h => h)) (fun i hi hF => ?_)).base hk.size
    have := h1 i hF
    omega
theorem MineP.parts {w wr : World} {T : TypeId} {B : Option Addr} {m c : Nat} {rs : List (List Int)} (h : MineP w wr T B m c rs) : Go.Proofs.YtknecjjdegngfaaDoor.RdPartsO (fun _ => False) wr B rs := by
  obtain ⟨hl, vals, h1, h2⟩ := h
  refine ⟨vals, by rw [hl]; exact Rd.of_own h1.1, (fun _ _ _ h => h), fun i bs hi => ?_⟩
  obtain ⟨A', c', e1, e2, _, _, e5, e6, e7⟩ := h2.2 i bs hi
  exact ⟨A', c', e1, e2, (fun _ _ _ h => h), e5, e6, e7⟩
/-- What becomes of it by an append. -/
theorem MineP.grow {w wr v v' : World} {T : TypeId} {B B' : Option Addr} {n c m c' : Nat} {rs nr : List (List Int)} {vals nv : List Value} (hl : rs.length = n) (hm : Mine w wr T B n c vals) (he : ElemsR w wr (fun i => (Value.slice B n c).ownBlock = some i) rs vals)
    (hkv : Keeps (fun _ => False) wr v) (hne : ElemsR wr v (fun _ => False) nr nv) (hnl : nr.length = m) (hown : v'.ownsRow 0 T 1 (.slice B' (n + m) c') (n + m) (vals ++ nv)) (hg : v.grownBy v' (Value.slice B n c).ownBlock)
    (hb : (Value.slice B' (n + m) c').ownBlock = (Value.slice B n c).ownBlock ∨ (Value.slice B' (n + m) c').ownBlock = some v.heap.size) : MineP w v' T B' (n + m) c' (rs ++ nr) := by
  have hlt : ∀ g, (Value.slice B n c).ownBlock = some g → g < wr.heap.size := fun g e => own_lt hm.1 e
  have hkg : Keeps (fun i => (Value.slice B n c).ownBlock = some i) v v' := Keeps.of_grown hg
  have hsz := hkv.size
  have hwz := hm.2.1.size
  refine ⟨by rw [List.length_append, hl, hnl], vals ++ nv, Mine.app0 (hm.keep hkv) hown hg hb, ?_⟩
  refine ElemsR.app ?_ ?_
  · have e1 : ElemsR w v (fun i => (Value.slice B n c).ownBlock = some i) rs vals := he.keep hkv (fun _ _ h => h.elim)
    have e2 : ElemsR w v (fun i => (Value.slice B n c).ownBlock = some i ∨ (Value.slice B' (n + m) c').ownBlock = some i) rs vals := e1.lt fun i hi hF => by
      rcases hF with hF | hF
      · exact hF
      · rcases hb with hb | hb
        · rw [← hb]; exact hF
        · rw [hb] at hF; injection hF with hF; omega
    exact (e2.keep hkg (fun _ _ h => .inl h)).lt (fun _ _ h => .inr h)
  · have e2 : ElemsR wr v (fun i => (Value.slice B n c).ownBlock = some i ∨ (Value.slice B' (n + m) c').ownBlock = some i) nr nv := by
      refine ⟨hne.1, fun i bs hi => ?_⟩
      obtain ⟨A', c'', a1, a2, a3, a4, a5⟩ := hne.2 i bs hi
      refine ⟨A', c'', a1, a2, fun hn ad e hF => ?_, a4, a5⟩
      obtain ⟨g, o, ee, hglt⟩ := a2.lt hn
      rw [ee] at e
      injection e with e
      have hge := a4 _ ee
      subst e
      have h9 : ∀ g', (Value.slice B n c).ownBlock = some g' → g' ≠ g := fun g' h' h'' => by have := hlt g' h'; have : wr.heap.size ≤ g := hge; omega
      rcases hF with hF | hF
      · exact h9 _ hF rfl
      · rcases hb with hb | hb
        · rw [hb] at hF; exact h9 _ hF rfl
        · rw [hb] at hF; injection hF with hF; have : g < v.heap.size := hglt; have : v.heap.size = g := hF; omega
    exact ((e2.keep hkg (fun _ _ h => .inl h)).lt (fun _ _ h => .inr h)).base hwz
/-- append of rows to it, within a region that draws its order. -/
theorem step_append_rows {P : Program} {Q : Exit → Act → World → Prop} {K : Act → World → Prop} {ops : Array Oper} {a : Act} {v : World} {o : Oper} (w wr : World) (hgd : o.guard = none) (s x : Operand) (t : TypeId)
    (ho : o.op = .call { callee := .builtin .append, args := #[s, x], argTypes := #[t, t] })
    (T : TypeId) (z : Value) (ht : P.underlying t = some (.slice T)) (hinfo : (P.info? T).map (fun i => (i.zero, i.size, i.bytes)) = some (some z, 1, 24)) (hzs : z.cells.size = 1)
    (B : Option Addr) (n d : Nat) (rs : List (List Int)) (hs : a.eval s = .slice B n d) (hP : MineP w wr T B n d rs) (hkv : Keeps (fun _ => False) wr v)
    (ad : Addr) (m c : Nat) (nr : List (List Int)) (nv : List Value) (hx : a.eval x = .slice (some ad) m c) (hl : nv.length = m) (hnews : ∀ j u, nv[j]? = some u → v.cell? (ad.add j) = some u) (hne : ElemsR wr v (fun _ => False) nr nv)
    (h1 : ∀ u ∈ nv, u.oneCell' = true) (hbytes : n + m ≤ 4398046511103)
    (h : ∀ B' c' v', MineP w v' T B' (n + m) c' (rs ++ nr) → v.grownBy v' (Value.slice B n d).ownBlock → K (a.put o.dst (.slice B' (n + m) c')) v') :
    if Region.wanted o (yielded ops a.tmps) = true then Oper.wp P o a v K Q else K (a.put o.dst undef) v := by
  obtain ⟨hrl, vals, hm, he⟩ := hP
  refine step_append_own hgd s x t ho T z 1 24 ht hinfo hzs (by omega) B n d vals hs (own_keepA hm.1 hkv) ad m c nv hx (by omega) hnews h1 (by simp only [maxLen]; omega) (by omega) ?_
  intro B' c' v' hown hg hb
  exact h B' c' v' (MineP.grow hrl hm he hkv hne (by rw [← hl, hne.1]) hown hg hb) hg
/-- .. and elsewhere, from a slice that reads as a list. -/
theorem wpList_append_rows {P : Program} (w wr v : World) {ops : Array Oper} {rest : List Oper} {o : Oper} {a : Act} {Q : Exit → Act → World → Prop} (hgd : o.guard = none) (s x : Operand) (t : TypeId)
    (ho : o.op = .call { callee := .builtin .append, args := #[s, x], argTypes := #[t, t] })
    (T : TypeId) (z : Value) (ht : P.underlying t = some (.slice T)) (hinfo : (P.info? T).map (fun i => (i.zero, i.size, i.bytes)) = some (some z, 1, 24)) (hzs : z.cells.size = 1)
    (B : Option Addr) (n d : Nat) (rs : List (List Int)) (hs : a.eval s = .slice B n d) (hP : MineP w wr T B n d rs) (hkv : Keeps (fun _ => False) wr v)
    (A : Option Addr) (m c : Nat) (nr : List (List Int)) (nv : List Value) (hx : a.eval x = .slice A m c) (hr : Rd v A m nv) (hne : ElemsR wr v (fun _ => False) nr nv)
    (h1 : ∀ u ∈ nv, u.oneCell' = true) (hbytes : n + m ≤ 4398046511103)
    (h : ∀ B' c' v', MineP w v' T B' (n + m) c' (rs ++ nr) → v.grownBy v' (Value.slice B n d).ownBlock → wpList P ops Q rest (a.put o.dst (.slice B' (n + m) c')) v') :
    wpList P ops Q (o :: rest) a v := by
  obtain ⟨hrl, vals, hm, he⟩ := hP
  refine wpList_append_rd v hgd s x t ho T z 24 ht hinfo hzs (.slice B n d) n vals hs (own_keepA hm.1 hkv) A m c nv hx hr h1 (by simp only [maxLen]; omega) (by omega) ?_
  intro B' c' v' hown hg hb
  exact h B' c' v' (MineP.grow hrl hm he hkv hne (by rw [← hr.1, hne.1]) hown hg hb) hg
end Go.Aff
