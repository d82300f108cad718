/-
  Values as trees: how they lie in memory.
-/
import Derived.Test.YtdmcioghdindfaaGreatDoorProg
import Derived.Test.YtdmcioghdindfaaGreatDoorMemK
import Derived.Test.YtdmcioghdindfaaGreatDoorTailK
import Derived.Test.YtdmcioghdindfaaGreatDoorJsonP
import Derived.WalkSpells
import Derived.WalkLawsBesides
import Derived.Lib.Hide
import Derived.Handy
set_option linter.unusedSimpArgs false
namespace Go.Aff
open Go Go.RowKit
theorem no_outF (A : Option Addr) (n : Nat) : Out (fun _ => False) A n := fun _ _ _ h => h
/-- A slice's block, if it has elements, is of D. -/
def InB (D : Nat → Prop) (A : Option Addr) (n : Nat) : Prop := 0 < n → ∀ a, A = some a → D a.block
theorem InB.out {D F : Nat → Prop} {A : Option Addr} {n : Nat} (h : InB D A n) (hF : ∀ i, D i → ¬ F i) : Out F A n := fun hn a e => hF _ (h hn a e)
theorem InB.mono {D C : Nat → Prop} {A : Option Addr} {n : Nat} (h : InB D A n) (hC : ∀ i, D i → C i) : InB C A n := fun hn a e => hC _ (h hn a e)
theorem InB.zero (D : Nat → Prop) (A : Option Addr) : InB D A 0 := fun h => absurd h (by omega)
theorem gen_codeF {P : Program} {c : Code} {a : Act} {Q : Exit → Act → World → Prop} {w : World} (R : World → Prop) (hR : R w) (h : ∀ W, R W → Code.wp P c Q a W) : Code.wp P c Q a w := h w hR
theorem cell_keep {w w' : World} (hk : Keeps (fun _ => False) w w') {p : Addr} {v : Value} (h : w.cell? p = some v) : w'.cell? p = some v := (hk.cell (World.block_lt_of_cell? w _ h) (fun h => h)).trans h
theorem own_built (w : World) (e : TypeId) (n : Nat) (cs : List Value) (hn : cs.length = n) (hm : n ≤ maxLen) : (w.alloc (.cells cs.toArray e)).ownsRow 0 e 1 (.slice (some ⟨w.heap.size, 0, none⟩) n n) n cs :=
  ⟨by omega, .inr ⟨w.heap.size, n, cs.toArray, rfl, Nat.zero_le _, heap_alloc_new w _, Nat.le_refl _, hm, by simp [hn], by simp [← hn]⟩⟩
theorem Mine.built (w wr : World) (e : TypeId) (n : Nat) (cs : List Value) (hk : Keeps (fun _ => False) w wr) (hn : cs.length = n) (hm : n ≤ maxLen) : Mine w (wr.alloc (.cells cs.toArray e)) e (some ⟨wr.heap.size, 0, none⟩) n n cs :=
  ⟨own_built wr e n cs hn hm, hk.alloc _, fun g h => by have e1 : some wr.heap.size = some g := h; injection e1 with e1; have := hk.size; omega⟩
theorem Mine.rd {w wr : World} {e : TypeId} {A : Option Addr} {m c : Nat} {xs : List Value} (h : Mine w wr e A m c xs) : Rd wr A m xs := Rd.of_own h.1
end Go.Aff
namespace Go.Proofs.YtdmcioghdindfaaGreatDoor
open Go Go.RowKit Go.Aff Go.Json
def errE (n : Int) : Value := .iface 42 (.int .i64 n)
/-- The sizes that a list or an object bears. -/
def sizeV (j : JV) : List Value := [.int .i64 j.nodes, .int .i64 j.bytes, .int .i64 j.deep]
/-- A value that lies in memory, in blocks of D. -/
inductive JAt (D : Nat → Prop) (w : World) : Value → JV → Prop
  | null : JAt D w (.iface 166 (.agg #[])) .null
  | flag (b : Bool) : JAt D w (.iface 167 (.bool b)) (.flag b)
  | num (b : Nat) (hf : finiteF b = true) (hz : b ≠ 9223372036854775808) (hb : b < 18446744073709551616) : JAt D w (.iface 172 (.float .f64 b)) (.num b)
  | text (s : ByteArray) : JAt D w (.iface 173 (.string s)) (.text s)
  | list {b : Nat} {A : Option Addr} {c : Nat} {vs : List Value} {l : List JV} (hD : D b) (hb : Blk w b 180 (sizeV (.list l) ++ [.slice A l.length c])) (hr : Rd w A l.length vs) (ho : InB D A l.length)
      (hl : ∀ (i : Nat) (v : Value) (j : JV), vs[i]? = some v → l[i]? = some j → JAt D w v j) : JAt D w (.iface 158 (.pointer (some ⟨b, 0, none⟩))) (.list l)
  | obj {b : Nat} {A B : Option Addr} {c d : Nat} {vs : List Value} {ks : List ByteArray} {l : List JV} (hD : D b) (hb : Blk w b 215 (sizeV (.obj ks l) ++ [.slice B ks.length d, .slice A l.length c]))
      (hk : Rd w B ks.length (ks.map .string)) (hok : InB D B ks.length) (hr : Rd w A l.length vs) (ho : InB D A l.length)
      (hl : ∀ (i : Nat) (v : Value) (j : JV), vs[i]? = some v → l[i]? = some j → JAt D w v j) : JAt D w (.iface 159 (.pointer (some ⟨b, 0, none⟩))) (.obj ks l)
theorem JAt.keep {D F : Nat → Prop} {w w' : World} {v : Value} {j : JV} (h : JAt D w v j) (hk : Keeps F w w') (hF : ∀ i, D i → ¬ F i) : JAt D w' v j := by
  induction h with
  | null => exact .null
  | flag b => exact .flag b
  | num b h1 h2 h3 => exact .num b h1 h2 h3
  | text s => exact .text s
  | list hD hb hr ho _ ih => exact .list hD (hk.blk hb (hF _ hD)) (hr.keep hk (ho.out hF)) ho ih
  | obj hD hb hkk hok hr ho _ ih => exact .obj hD (hk.blk hb (hF _ hD)) (hkk.keep hk (hok.out hF)) hok (hr.keep hk (ho.out hF)) ho ih
theorem Rd.inB {w : World} {A : Option Addr} {n : Nat} {xs : List Value} {D : Nat → Prop} (h : Rd w A n xs) (hD : InB D A n) {C : Nat → Prop} (hC : ∀ i, D i → i < w.heap.size → C i) : InB C A n := fun hn a e => by
  obtain ⟨g, o, e2, hl⟩ := h.lt hn
  rw [e] at e2
  injection e2 with e2
  subst e2
  exact hC _ (hD hn _ e) hl
theorem JAt.mono {D C : Nat → Prop} {w : World} {v : Value} {j : JV} (h : JAt D w v j) (hC : ∀ i, D i → i < w.heap.size → C i) : JAt C w v j := by
  induction h with
  | null => exact .null
  | flag b => exact .flag b
  | num b h1 h2 h3 => exact .num b h1 h2 h3
  | text s => exact .text s
  | list hD hb hr ho _ ih => exact .list (hC _ hD hb.lt) hb hr (Rd.inB hr ho hC) ih
  | obj hD hb hkk hok hr ho _ ih => exact .obj (hC _ hD hb.lt) hb hkk (Rd.inB hkk hok hC) hr (Rd.inB hr ho hC) ih
/-- Nothing that lies is turned. -/
theorem JAt.stay {D : Nat → Prop} {w w' : World} {v : Value} {j : JV} (h : JAt D w v j) (hk : Keeps (fun _ => False) w w') : JAt D w' v j := h.keep hk (fun _ _ h => h)
theorem JAt.iface {D : Nat → Prop} {w : World} {v : Value} {j : JV} (h : JAt D w v j) : ∃ T x, v = .iface T x := by cases h <;> exact ⟨_, _, rfl⟩
theorem JAt.one {D : Nat → Prop} {w : World} {v : Value} {j : JV} (h : JAt D w v j) : v.oneCell' = true := by cases h <;> rfl
/-- A tree: its address, its block, its value. -/
def TreeAt (D : Nat → Prop) (w : World) (q : Nat) (v : Value) (j : JV) : Prop := D q ∧ Blk w q 110 [v] ∧ JAt D w v j
theorem TreeAt.keep {D F : Nat → Prop} {w w' : World} {q : Nat} {v : Value} {j : JV} (h : TreeAt D w q v j) (hk : Keeps F w w') (hF : ∀ i, D i → ¬ F i) : TreeAt D w' q v j := ⟨h.1, hk.blk h.2.1 (hF _ h.1), h.2.2.keep hk hF⟩
theorem TreeAt.stay {D : Nat → Prop} {w w' : World} {q : Nat} {v : Value} {j : JV} (h : TreeAt D w q v j) (hk : Keeps (fun _ => False) w w') : TreeAt D w' q v j := h.keep hk (fun _ _ h => h)
theorem TreeAt.mono {D C : Nat → Prop} {w : World} {q : Nat} {v : Value} {j : JV} (h : TreeAt D w q v j) (hC : ∀ i, D i → i < w.heap.size → C i) : TreeAt C w q v j := ⟨hC _ h.1 h.2.1.lt, h.2.1, h.2.2.mono hC⟩
end Go.Proofs.YtdmcioghdindfaaGreatDoor
