/-
  Texts put together: JsonP; NTree; NAssertW; NodeW.
-/
import Derived.Test.YtdmcioghdindfaaGreatQ04
import Derived.Test.YtdmcioghdindfaaGreatProg
import Derived.Test.YtdmcioghdindfaaGreatQ02
import Derived.Test.YtdmcioghdindfaaGreatQ03
import Derived.WalkSpells
import Derived.WalkLawsBesides
import Derived.Lib.Hide
import Derived.Handy
import Derived.Stop.Asserts
import Derived.Deep.LoopGhost
import Derived.Deep.CutRange
import Derived.Deep.CutBlock
import Derived.Deep.OwnRows
import Derived.Deep.RegionHeld3
import Derived.Laws.Pointers
import Derived.Recover
import Derived.Deep.DeepCutAuto
set_option linter.unusedSimpArgs false
namespace Go.Json
open Go.Utf
inductive JV where
 | null
 | flag (b : Bool)
 | num (b : Nat)
 | text (s : ByteArray)
 | list (l : List JV)
 | obj (ks : List ByteArray) (l : List JV)
def sb (s : ByteArray) : List Int := s.data.toList.map fun b => (b.toNat : Int)
theorem sb_len (s : ByteArray) : (sb s).length = s.size := by unfold sb; rw [List.length_map, Array.length_toList]; rfl
theorem sb_inj {s t : ByteArray} (h : sb s = sb t) : s = t := by
 have hi : ∀ a b : UInt8, ((a.toNat : Int)) = b.toNat → a = b := fun a b h => UInt8.toNat_inj.1 (by omega)
 have h2 : ∀ l m : List UInt8, (l.map fun b => (b.toNat : Int)) = (m.map fun b => (b.toNat : Int)) → l = m := by
  intro l
  induction l with
  | nil => intro m h; cases m with | nil => rfl | cons _ _ => cases h
  | cons a l ih => intro m h; cases m with
   | nil => cases h
   | cons b m =>
    simp only [List.map_cons, List.cons.injEq] at h
    rw [hi a b h.1, ih m h.2]
 have h3 := h2 _ _ h
 cases s; cases t
 congr
 exact Array.toList_inj.1 h3
theorem JV.size_list {l : List JV} {x : JV} (h : x ∈ l) : SizeOf.sizeOf x < SizeOf.sizeOf (JV.list l) := by
 have := List.sizeOf_lt_of_mem h
 simp
 omega
theorem JV.size_obj {ks : List ByteArray} {l : List JV} {x : JV} (h : x ∈ l) : SizeOf.sizeOf x < SizeOf.sizeOf (JV.obj ks l) := by
 have := List.sizeOf_lt_of_mem h
 simp
 omega
theorem JV.ind {P : JV → Prop} (h0 : P .null) (h1 : ∀ b, P (.flag b)) (h2 : ∀ b, P (.num b)) (h3 : ∀ s, P (.text s)) (h4 : ∀ l, (∀ x, x ∈ l → P x) → P (.list l)) (h5 : ∀ ks l, (∀ x, x ∈ l → P x) → P (.obj ks l)) : ∀ t, P t
 | .null => h0
 | .flag b => h1 b
 | .num b => h2 b
 | .text s => h3 s
 | .list l => h4 l fun x _ => JV.ind h0 h1 h2 h3 h4 h5 x
 | .obj ks l => h5 ks l fun x _ => JV.ind h0 h1 h2 h3 h4 h5 x
termination_by t => SizeOf.sizeOf t
decreasing_by
 ·exact JV.size_list (by assumption)
 ·exact JV.size_obj (by assumption)
def sumN : List Nat → Nat
 | [] => 0
 | x :: l => x + sumN l
def maxN : List Nat → Nat
 | [] => 0
 | x :: l => max x (maxN l)
def JV.nodes : JV → Nat
 | .list l => 1 + sumN (l.map fun x => x.nodes)
 | .obj _ l => 1 + sumN (l.map fun x => x.nodes)
 | _ => 1
def JV.bytes : JV → Nat
 | .text s => s.size
 | .list l => sumN (l.map fun x => x.bytes)
 | .obj ks l => sumN (ks.map fun k => k.size) + sumN (l.map fun x => x.bytes)
 | _ => 0
def JV.deep : JV → Nat
 | .list l => maxN (l.map fun x => x.deep) + 1
 | .obj _ l => maxN (l.map fun x => x.deep) + 1
 | _ => 1
def JV.sort : JV → Int
 | .null => 1
 | .flag _ => 2
 | .num _ => 3
 | .text _ => 4
 | .list _ => 5
 | .obj _ _ => 6
def JV.within (v : JV) : Prop := v.nodes ≤ 65536 ∧ v.bytes ≤ 2097152 ∧ v.deep ≤ 512
instance (v : JV) : Decidable v.within := inferInstanceAs (Decidable (_ ∧ _ ∧ _))
def JV.items : JV → List JV
 | .list l => l
 | .obj _ l => l
 | _ => []
def JV.keys : JV → List ByteArray
 | .obj ks _ => ks
 | _ => []
structure StepV where
 sort : Int
 flag : Bool
 bits : Nat
 text : ByteArray
 count : Int
 keys : List ByteArray
def step0 (sort : Int) : StepV := ⟨sort, false, 0, .empty, 0, []⟩
def JV.last : JV → StepV
 | .null => step0 1
 | .flag b => { step0 2 with flag := b }
 | .num b => { step0 3 with bits := b }
 | .text s => { step0 4 with text := s }
 | .list l => { step0 5 with count := l.length }
 | .obj ks _ => { step0 6 with keys := ks }
def JV.steps : JV → List StepV
 | .list l => (l.map fun x => x.steps).flatten ++ [(JV.list l).last]
 | .obj ks l => (l.map fun x => x.steps).flatten ++ [(JV.obj ks l).last]
 | v => [v.last]
theorem JV.steps_eq (v : JV) : v.steps = (v.items.map fun x => x.steps).flatten ++ [v.last] := by
 cases v <;> simp [JV.steps, JV.items]
theorem JV.nodes_eq (v : JV) : v.nodes = 1 + sumN (v.items.map fun x => x.nodes) := by
 cases v <;> simp [JV.nodes, JV.items, sumN]
theorem JV.deep_eq (v : JV) : v.deep = maxN (v.items.map fun x => x.deep) + 1 := by
 cases v <;> simp [JV.deep, JV.items, maxN]
def JV.own : JV → Nat
 | .text s => s.size
 | .obj ks _ => sumN (ks.map fun k => k.size)
 | _ => 0
theorem JV.bytes_eq (v : JV) : v.bytes = v.own + sumN (v.items.map fun x => x.bytes) := by
 cases v <;> simp [JV.bytes, JV.items, sumN, JV.own]
def usedF (s : StepV) : Bool :=
 decide (1 ≤ s.sort) && decide (s.sort ≤ 6) && decide (0 ≤ s.count) && (!s.flag || decide (s.sort = 2)) && (decide (s.bits = 0) || decide (s.sort = 3)) && (decide (s.text.size = 0) || decide (s.sort = 4)) &&
  (decide (s.count = 0) || decide (s.sort = 5)) && (decide (s.keys.length = 0) || decide (s.sort = 6))
def finiteF (b : Nat) : Bool := !decide (b / 4503599627370496 % 2048 = 2047)
def rightS (s : ByteArray) : Bool := rightR (sb s)
def ltS (a b : ByteArray) : Prop := ltU (sb a) (sb b)
instance (a b : ByteArray) : Decidable (ltS a b) := inferInstanceAs (Decidable (lexR _ _ < 0))
def insM (p : ByteArray × JV) : List (ByteArray × JV) → List (ByteArray × JV)
 | [] => [p]
 | q :: l => if ltS p.1 q.1 then p :: q :: l else q :: insM p l
def sortM (l : List (ByteArray × JV)) : List (ByteArray × JV) := l.foldr insM []
def mkObj (ks : List ByteArray) (l : List JV) : JV := .obj ((sortM (ks.zip l)).map (·.1)) ((sortM (ks.zip l)).map (·.2))
def mkV (s : StepV) (l : List JV) : JV :=
 if s.sort = 1 then .null
 else if s.sort = 2 then .flag s.flag
 else if s.sort = 3 then .num (if s.bits = 9223372036854775808 then 0 else s.bits)
 else if s.sort = 4 then .text s.text
 else if s.sort = 5 then .list l
 else mkObj s.keys l
def doF (P : List JV) (s : StepV) : Int ⊕ List JV :=
 if usedF s = false then .inl 2
 else if s.sort = 3 ∧ finiteF s.bits = false then .inl 104
 else if rightS s.text = false ∨ s.keys.all rightS = false then .inl 100
 else if ¬ s.keys.Nodup then .inl 101
 else if P.length < s.count.toNat + s.keys.length then .inl 102
 else if ¬ (mkV s (P.drop (P.length - (s.count.toNat + s.keys.length)))).within then .inl 3
 else .inr (P.take (P.length - (s.count.toNat + s.keys.length)) ++ [mkV s (P.drop (P.length - (s.count.toNat + s.keys.length)))])
def rowF : Nat → List JV → List StepV → (Int × Nat) ⊕ List JV
 | _, P, [] => .inr P
 | i, P, s :: l => match doF P s with
  | .inl e => .inl (e, i)
  | .inr P' => rowF (i + 1) P' l
def buildF (l : List StepV) : (Int × Option Nat) ⊕ JV :=
 if 65536 < l.length then .inl (3, none)
 else match rowF 0 [] l with
 | .inl (e, i) => .inl (e, some i)
 | .inr P => match P with
  | [v] => .inr v
  | _ => .inl (103, some l.length)
theorem ltS_irrefl (a : ByteArray) : ¬ ltS a a := ltU_irrefl _
theorem ltS_trans {a b c : ByteArray} (h : ltS a b) (h2 : ltS b c) : ltS a c := ltU_trans h h2
theorem ltS_tri {a b : ByteArray} (ha : rightS a = true) (hb : rightS b = true) : ltS a b ∨ a = b ∨ ltS b a := by
 rcases ltU_tri ha hb with h | h | h
 ·exact .inl h
 ·exact .inr (.inl (sb_inj h))
 ·exact .inr (.inr h)
def Rising (l : List (ByteArray × JV)) : Prop := l.Pairwise fun p q => ltS p.1 q.1
theorem insM_perm (p : ByteArray × JV) : ∀ l, (insM p l).Perm (p :: l)
 | [] => .refl _
 | q :: l => by
  unfold insM
  split
  ·exact .refl _
  ·exact ((insM_perm p l).cons q).trans (.swap p q l)
theorem sortM_perm : ∀ l, (sortM l).Perm l
 | [] => .refl _
 | p :: l => (insM_perm p (sortM l)).trans ((sortM_perm l).cons p)
theorem insM_rising (p : ByteArray × JV) : ∀ (l : List (ByteArray × JV)), Rising l → (∀ q ∈ l, ltS p.1 q.1 ∨ ltS q.1 p.1) → Rising (insM p l)
 | [], _, _ => List.pairwise_singleton _ _
 | q :: l, h, hd => by
  have h' := List.pairwise_cons.1 h
  unfold insM
  split
  ·rename_i hlt
   refine List.pairwise_cons.2 ⟨fun r hr => ?_, h⟩
   rcases List.mem_cons.1 hr with rfl | hr
   ·exact hlt
   ·exact ltS_trans hlt (h'.1 r hr)
  ·rename_i hlt
   refine List.pairwise_cons.2 ⟨fun r hr => ?_, insM_rising p l h'.2 fun r hr => hd r (List.mem_cons_of_mem _ hr)⟩
   rcases List.mem_cons.1 ((insM_perm p l).mem_iff.1 hr) with rfl | hr
   ·exact (hd q List.mem_cons_self).resolve_left hlt
   ·exact h'.1 r hr
theorem sortM_rising : ∀ (l : List (ByteArray × JV)), (l.map (·.1)).Nodup → (∀ p ∈ l, rightS p.1 = true) → Rising (sortM l)
 | [], _, _ => .nil
 | p :: l, hn, hr => by
  rw [List.map_cons, List.nodup_cons] at hn
  refine insM_rising p (sortM l) (sortM_rising l hn.2 fun q hq => hr q (List.mem_cons_of_mem _ hq)) fun q hq => ?_
  have hq := (sortM_perm l).mem_iff.1 hq
  rcases ltS_tri (hr p List.mem_cons_self) (hr q (List.mem_cons_of_mem _ hq)) with h | h | h
  ·exact .inl h
  ·exact absurd (h ▸ List.mem_map.2 ⟨q, hq, rfl⟩) hn.1
  ·exact .inr h
theorem rising_one {α : Type} (lt : α → α → Prop) (h1 : ∀ x, ¬ lt x x) (h2 : ∀ x y z, lt x y → lt y z → lt x z) {l m : List α} (hl : l.Pairwise lt) (hm : m.Pairwise lt) (h : ∀ x, x ∈ l ↔ x ∈ m) : l = m :=
 rising_unique lt h1 h2 l m hl hm h
def ltM (p q : ByteArray × JV) : Prop := ltS p.1 q.1
theorem ltM_irrefl (p : ByteArray × JV) : ¬ ltM p p := ltS_irrefl p.1
theorem ltM_trans (p q r : ByteArray × JV) (h : ltM p q) (h2 : ltM q r) : ltM p r := ltS_trans h h2
theorem rising_eq {l m : List (ByteArray × JV)} (hl : Rising l) (hm : Rising m) (h : ∀ x, x ∈ l ↔ x ∈ m) : l = m :=
 rising_one ltM ltM_irrefl ltM_trans hl hm h
theorem ltS_irr (a : ByteArray) : ¬ ltS a a := ltS_irrefl a
theorem ltS_tr (a b c : ByteArray) (h : ltS a b) (h2 : ltS b c) : ltS a c := ltS_trans h h2
theorem rising_keys {l m : List ByteArray} (hl : l.Pairwise ltS) (hm : m.Pairwise ltS) (h : ∀ x, x ∈ l ↔ x ∈ m) : l = m :=
 rising_one ltS ltS_irr ltS_tr hl hm h
theorem sortM_of_rising {l : List (ByteArray × JV)} (h : Rising l) : sortM l = l := by
 have hn : ∀ {l : List (ByteArray × JV)}, Rising l → sortM l = l := by
  intro l
  induction l with
  | nil => intro _; rfl
  | cons p l ih =>
   intro h
   have h' := List.pairwise_cons.1 h
   show insM p (sortM l) = _
   rw [ih h'.2]
   match l with
   | [] => rfl
   | q :: l =>
    unfold insM
    rw [if_pos (h'.1 q List.mem_cons_self)]
 exact hn h
end Go.Json

set_option linter.unusedSimpArgs false
namespace Go.Aff
open Go Go.RowKit
def InB (D : Nat → Prop) (A : Option Addr) (n : Nat) : Prop := 0 < n → ∀ a, A = some a → D a.block
theorem InB.out {D F : Nat → Prop} {A : Option Addr} {n : Nat} (h : InB D A n) (hF : ∀ i, D i → ¬ F i) : Out F A n := fun hn a e => hF _ (h hn a e)
theorem InB.mono {D C : Nat → Prop} {A : Option Addr} {n : Nat} (h : InB D A n) (hC : ∀ i, D i → C i) : InB C A n := fun hn a e => hC _ (h hn a e)
theorem InB.zero (D : Nat → Prop) (A : Option Addr) : InB D A 0 := fun h => absurd h (by omega)
theorem gen_codeF {P : Program} {c : Code} {a : Act} {Q : Exit → Act → World → Prop} {w : World} (R : World → Prop) (hR : R w) (h : ∀ W, R W → Code.wp P c Q a W) : Code.wp P c Q a w := h w hR
theorem cell_keep {w w' : World} (hk : Keeps (fun _ => False) w w') {p : Addr} {v : Value} (h : w.cell? p = some v) : w'.cell? p = some v := (hk.cell (World.block_lt_of_cell? w _ h) (fun h => h)).trans h
theorem own_built (w : World) (e : TypeId) (n : Nat) (cs : List Value) (hn : cs.length = n) (hm : n ≤ maxLen) : (w.alloc (.cells cs.toArray e)).ownsRow 0 e 1 (.slice (some ⟨w.heap.size, 0, none⟩) n n) n cs :=
 ⟨by omega, .inr ⟨w.heap.size, n, cs.toArray, rfl, Nat.zero_le _, heap_alloc_new w _, Nat.le_refl _, hm, by simp [hn], by simp [← hn]⟩⟩
theorem Mine.built (w wr : World) (e : TypeId) (n : Nat) (cs : List Value) (hk : Keeps (fun _ => False) w wr) (hn : cs.length = n) (hm : n ≤ maxLen) : Mine w (wr.alloc (.cells cs.toArray e)) e (some ⟨wr.heap.size, 0, none⟩) n n cs :=
 ⟨own_built wr e n cs hn hm, hk.alloc _, fun g h => by have e1 : some wr.heap.size = some g := h; injection e1 with e1; have := hk.size; omega⟩
theorem Mine.rd {w wr : World} {e : TypeId} {A : Option Addr} {m c : Nat} {xs : List Value} (h : Mine w wr e A m c xs) : Rd wr A m xs := Rd.of_own h.1
end Go.Aff
namespace Go.Proofs.YtdmcioghdindfaaGreat
open Go Go.RowKit Go.Aff Go.Json
def errE (n : Int) : Value := .iface 69 (.int .i64 n)
def sizeV (j : JV) : List Value := [.int .i64 j.nodes, .int .i64 j.bytes, .int .i64 j.deep]
inductive JAt (D : Nat → Prop) (w : World) : Value → JV → Prop
 | null : JAt D w (.iface 116 (.agg #[])) .null
 | flag (b : Bool) : JAt D w (.iface 117 (.bool b)) (.flag b)
 | num (b : Nat) (hf : finiteF b = true) (hz : b ≠ 9223372036854775808) (hb : b < 18446744073709551616) : JAt D w (.iface 122 (.float .f64 b)) (.num b)
 | text (s : ByteArray) : JAt D w (.iface 123 (.string s)) (.text s)
 | list {b : Nat} {A : Option Addr} {c : Nat} {vs : List Value} {l : List JV} (hD : D b) (hb : Blk w b 131 (sizeV (.list l) ++ [.slice A l.length c])) (hr : Rd w A l.length vs) (ho : InB D A l.length)
   (hl : ∀ (i : Nat) (v : Value) (j : JV), vs[i]? = some v → l[i]? = some j → JAt D w v j) : JAt D w (.iface 126 (.pointer (some ⟨b, 0, none⟩))) (.list l)
 | obj {b : Nat} {A B : Option Addr} {c d : Nat} {vs : List Value} {ks : List ByteArray} {l : List JV} (hD : D b) (hb : Blk w b 162 (sizeV (.obj ks l) ++ [.slice B ks.length d, .slice A l.length c]))
   (hk : Rd w B ks.length (ks.map .string)) (hok : InB D B ks.length) (hr : Rd w A l.length vs) (ho : InB D A l.length)
   (hl : ∀ (i : Nat) (v : Value) (j : JV), vs[i]? = some v → l[i]? = some j → JAt D w v j) : JAt D w (.iface 160 (.pointer (some ⟨b, 0, none⟩))) (.obj ks l)
theorem JAt.keep {D F : Nat → Prop} {w w' : World} {v : Value} {j : JV} (h : JAt D w v j) (hk : Keeps F w w') (hF : ∀ i, D i → ¬ F i) : JAt D w' v j := by
 induction h with
 | null => exact .null
 | flag b => exact .flag b
 | num b h1 h2 h3 => exact .num b h1 h2 h3
 | text s => exact .text s
 | list hD hb hr ho _ ih => exact .list hD (hk.blk hb (hF _ hD)) (hr.keep hk (ho.out hF)) ho ih
 | obj hD hb hkk hok hr ho _ ih => exact .obj hD (hk.blk hb (hF _ hD)) (hkk.keep hk (hok.out hF)) hok (hr.keep hk (ho.out hF)) ho ih
theorem Rd.inB {w : World} {A : Option Addr} {n : Nat} {xs : List Value} {D : Nat → Prop} (h : Rd w A n xs) (hD : InB D A n) {C : Nat → Prop} (hC : ∀ i, D i → i < w.heap.size → C i) : InB C A n := fun hn a e => by
 obtain ⟨g, o, e2, hl⟩ := h.lt hn
 rw [e] at e2
 injection e2 with e2
 subst e2
 exact hC _ (hD hn _ e) hl
theorem JAt.mono {D C : Nat → Prop} {w : World} {v : Value} {j : JV} (h : JAt D w v j) (hC : ∀ i, D i → i < w.heap.size → C i) : JAt C w v j := by
 induction h with
 | null => exact .null
 | flag b => exact .flag b
 | num b h1 h2 h3 => exact .num b h1 h2 h3
 | text s => exact .text s
 | list hD hb hr ho _ ih => exact .list (hC _ hD hb.lt) hb hr (Rd.inB hr ho hC) ih
 | obj hD hb hkk hok hr ho _ ih => exact .obj (hC _ hD hb.lt) hb hkk (Rd.inB hkk hok hC) hr (Rd.inB hr ho hC) ih
theorem JAt.stay {D : Nat → Prop} {w w' : World} {v : Value} {j : JV} (h : JAt D w v j) (hk : Keeps (fun _ => False) w w') : JAt D w' v j := h.keep hk (fun _ _ h => h)
theorem JAt.iface {D : Nat → Prop} {w : World} {v : Value} {j : JV} (h : JAt D w v j) : ∃ T x, v = .iface T x := by cases h <;> exact ⟨_, _, rfl⟩
theorem JAt.one {D : Nat → Prop} {w : World} {v : Value} {j : JV} (h : JAt D w v j) : v.oneCell' = true := by cases h <;> rfl
def TreeAt (D : Nat → Prop) (w : World) (q : Nat) (v : Value) (j : JV) : Prop := D q ∧ Blk w q 78 [v] ∧ JAt D w v j
theorem TreeAt.keep {D F : Nat → Prop} {w w' : World} {q : Nat} {v : Value} {j : JV} (h : TreeAt D w q v j) (hk : Keeps F w w') (hF : ∀ i, D i → ¬ F i) : TreeAt D w' q v j := ⟨h.1, hk.blk h.2.1 (hF _ h.1), h.2.2.keep hk hF⟩
theorem TreeAt.stay {D : Nat → Prop} {w w' : World} {q : Nat} {v : Value} {j : JV} (h : TreeAt D w q v j) (hk : Keeps (fun _ => False) w w') : TreeAt D w' q v j := h.keep hk (fun _ _ h => h)
theorem TreeAt.mono {D C : Nat → Prop} {w : World} {q : Nat} {v : Value} {j : JV} (h : TreeAt D w q v j) (hC : ∀ i, D i → i < w.heap.size → C i) : TreeAt C w q v j := ⟨hC _ h.1 h.2.1.lt, h.2.1, h.2.2.mono hC⟩
end Go.Proofs.YtdmcioghdindfaaGreat

set_option linter.unusedSimpArgs false
namespace Go.Proofs.YtdmcioghdindfaaGreat
open Go Go.RowKit Go.Aff Go.Json
theorem as_null_flag (v : Value) (w : World) : (Instr.typeAssert (.iface 116 v) 58 117 true).run Tryz.prog w = .ok (.tuple #[.bool false, .bool false]) w := by kernel_rfl
theorem as_null_num (v : Value) (w : World) : (Instr.typeAssert (.iface 116 v) 58 122 true).run Tryz.prog w = .ok (.tuple #[.float .f64 0, .bool false]) w := by kernel_rfl
theorem as_null_text (v : Value) (w : World) : (Instr.typeAssert (.iface 116 v) 58 123 true).run Tryz.prog w = .ok (.tuple #[.string ⟨#[]⟩, .bool false]) w := by kernel_rfl
theorem as_null_list (v : Value) (w : World) : (Instr.typeAssert (.iface 116 v) 58 126 true).run Tryz.prog w = .ok (.tuple #[.pointer none, .bool false]) w := by kernel_rfl
theorem as_null_obj (v : Value) (w : World) : (Instr.typeAssert (.iface 116 v) 58 160 true).run Tryz.prog w = .ok (.tuple #[.pointer none, .bool false]) w := by kernel_rfl
theorem as_flag_flag (v : Value) (w : World) : (Instr.typeAssert (.iface 117 v) 58 117 true).run Tryz.prog w = .ok (.tuple #[v, .bool true]) w := by kernel_rfl
theorem as_flag_list (v : Value) (w : World) : (Instr.typeAssert (.iface 117 v) 58 126 true).run Tryz.prog w = .ok (.tuple #[.pointer none, .bool false]) w := by kernel_rfl
theorem as_flag_obj (v : Value) (w : World) : (Instr.typeAssert (.iface 117 v) 58 160 true).run Tryz.prog w = .ok (.tuple #[.pointer none, .bool false]) w := by kernel_rfl
theorem as_num_flag (v : Value) (w : World) : (Instr.typeAssert (.iface 122 v) 58 117 true).run Tryz.prog w = .ok (.tuple #[.bool false, .bool false]) w := by kernel_rfl
theorem as_num_num (v : Value) (w : World) : (Instr.typeAssert (.iface 122 v) 58 122 true).run Tryz.prog w = .ok (.tuple #[v, .bool true]) w := by kernel_rfl
theorem as_num_list (v : Value) (w : World) : (Instr.typeAssert (.iface 122 v) 58 126 true).run Tryz.prog w = .ok (.tuple #[.pointer none, .bool false]) w := by kernel_rfl
theorem as_num_obj (v : Value) (w : World) : (Instr.typeAssert (.iface 122 v) 58 160 true).run Tryz.prog w = .ok (.tuple #[.pointer none, .bool false]) w := by kernel_rfl
theorem as_text_flag (v : Value) (w : World) : (Instr.typeAssert (.iface 123 v) 58 117 true).run Tryz.prog w = .ok (.tuple #[.bool false, .bool false]) w := by kernel_rfl
theorem as_text_num (v : Value) (w : World) : (Instr.typeAssert (.iface 123 v) 58 122 true).run Tryz.prog w = .ok (.tuple #[.float .f64 0, .bool false]) w := by kernel_rfl
theorem as_text_text (v : Value) (w : World) : (Instr.typeAssert (.iface 123 v) 58 123 true).run Tryz.prog w = .ok (.tuple #[v, .bool true]) w := by kernel_rfl
theorem as_text_list (v : Value) (w : World) : (Instr.typeAssert (.iface 123 v) 58 126 true).run Tryz.prog w = .ok (.tuple #[.pointer none, .bool false]) w := by kernel_rfl
theorem as_text_obj (v : Value) (w : World) : (Instr.typeAssert (.iface 123 v) 58 160 true).run Tryz.prog w = .ok (.tuple #[.pointer none, .bool false]) w := by kernel_rfl
theorem as_list_flag (v : Value) (w : World) : (Instr.typeAssert (.iface 126 v) 58 117 true).run Tryz.prog w = .ok (.tuple #[.bool false, .bool false]) w := by kernel_rfl
theorem as_list_num (v : Value) (w : World) : (Instr.typeAssert (.iface 126 v) 58 122 true).run Tryz.prog w = .ok (.tuple #[.float .f64 0, .bool false]) w := by kernel_rfl
theorem as_list_text (v : Value) (w : World) : (Instr.typeAssert (.iface 126 v) 58 123 true).run Tryz.prog w = .ok (.tuple #[.string ⟨#[]⟩, .bool false]) w := by kernel_rfl
theorem as_list_list (v : Value) (w : World) : (Instr.typeAssert (.iface 126 v) 58 126 true).run Tryz.prog w = .ok (.tuple #[v, .bool true]) w := by kernel_rfl
theorem as_list_obj (v : Value) (w : World) : (Instr.typeAssert (.iface 126 v) 58 160 true).run Tryz.prog w = .ok (.tuple #[.pointer none, .bool false]) w := by kernel_rfl
theorem as_obj_flag (v : Value) (w : World) : (Instr.typeAssert (.iface 160 v) 58 117 true).run Tryz.prog w = .ok (.tuple #[.bool false, .bool false]) w := by kernel_rfl
theorem as_obj_num (v : Value) (w : World) : (Instr.typeAssert (.iface 160 v) 58 122 true).run Tryz.prog w = .ok (.tuple #[.float .f64 0, .bool false]) w := by kernel_rfl
theorem as_obj_text (v : Value) (w : World) : (Instr.typeAssert (.iface 160 v) 58 123 true).run Tryz.prog w = .ok (.tuple #[.string ⟨#[]⟩, .bool false]) w := by kernel_rfl
theorem as_obj_list (v : Value) (w : World) : (Instr.typeAssert (.iface 160 v) 58 126 true).run Tryz.prog w = .ok (.tuple #[.pointer none, .bool false]) w := by kernel_rfl
theorem as_obj_obj (v : Value) (w : World) : (Instr.typeAssert (.iface 160 v) 58 160 true).run Tryz.prog w = .ok (.tuple #[v, .bool true]) w := by kernel_rfl
theorem as_errno_errno (v : Value) (w : World) : (Instr.typeAssert (.iface 69 v) 33 69 true).run Tryz.prog w = .ok (.tuple #[v, .bool true]) w := by kernel_rfl
theorem at_errno_errno (v : Value) (w : World) : (Instr.typeAssert (.iface 69 v) 33 69 false).run Tryz.prog w = .ok v w := by kernel_rfl
theorem rec_errno (v : Value) (w : World) : (Instr.typeAssert (.iface 69 v) 20 69 false).run Tryz.prog w = .ok v w := by kernel_rfl
end Go.Proofs.YtdmcioghdindfaaGreat

set_option linter.unusedSimpArgs false
namespace Go.Proofs.YtdmcioghdindfaaGreat
open Go Go.RowKit Go.Aff Go.Json
set_option maxRecDepth 100000 in
theorem within_any (w : World) (n b d : Int) : Calls Tryz.prog 71 #[.agg #[.int .i64 n, .int .i64 b, .int .i64 d]] w fun e w' => e = .returned (.bool (decide (n ≤ 65536) && (decide (b ≤ 2097152) && decide (d ≤ 512)))) ∧ Keeps (fun _ => False) w w' := by
 have hb := Blk.new w 128 [.int .i64 n, .int .i64 b, .int .i64 d]
 have c0 := hb.cell 0
 have c1 := hb.cell 1
 have c2 := hb.cell 2
 have HK := Lib.hid ((Keeps.refl (fun _ => False) w).alloc (.cells #[.int .i64 n, .int .i64 b, .int .i64 d] 128))
 clear hb
 by_cases h1 : n ≤ 65536
 ·by_cases h2 : b ≤ 2097152
  ·go_enter Tryz.func71, Tryz.ntmps71
   go_wp2
   go_ret
   exact ⟨by first | (simp [h1, h2]; done) | (simp [h1, h2]; omega), HK.out⟩
  ·go_enter Tryz.func71, Tryz.ntmps71
   go_wp2
   go_ret
   exact ⟨by first | (simp [h1, h2]; done) | (simp [h1, h2]; omega), HK.out⟩
 ·go_enter Tryz.func71, Tryz.ntmps71
  go_wp2
  go_ret
  exact ⟨by simp [h1]; omega, HK.out⟩
theorem refuse_ok (w : World) (k : Int) : Calls Tryz.prog 49 #[.bool true, .int .i64 k] w fun e w' => e = .returned (.tuple #[]) ∧ w' = w := by
 go_enter Tryz.func49, Tryz.ntmps49
 go_wp2
 go_end0
 exact ⟨rfl, rfl⟩
theorem str_empty (tx : ByteArray) : tx.toList.isEmpty = decide (tx.size = 0) := by
 rw [ByteArray.toList_eq, Bool.eq_iff_iff, decide_eq_true_iff, List.isEmpty_iff]
 constructor
 ·intro h
  exact congrArg List.length h
 ·intro h
  exact List.length_eq_zero_iff.1 h
def stepV (s : StepV) (A : Option Addr) (c : Nat) : List Value := [.int .i64 s.sort, .bool s.flag, .int .u64 s.bits, .string s.text, .int .i64 s.count, .slice A s.keys.length c]
set_option maxHeartbeats 4000000 in
set_option maxRecDepth 100000 in
theorem used_walk (w : World) (so : Int) (fl : Bool) (bi : Nat) (tx : ByteArray) (cn : Int) (A : Option Addr) (n c : Nat) (b1 b2 b3 e2 e3 e4 e5 e6 z te cz nz : Bool)
  (h1 : decide (1 ≤ so) = b1) (h2 : decide (so ≤ 6) = b2) (h3 : decide (0 ≤ cn) = b3) (k2 : (so == 2) = e2) (k3 : (so == 3) = e3) (k4 : (so == 4) = e4) (k5 : (so == 5) = e5) (k6 : (so == 6) = e6)
  (hz : ((bi : Int) == 0) = z) (he : tx.toList.isEmpty = te) (hc : (cn == 0) = cz) (hn : ((n : Int) == 0) = nz) :
  Calls Tryz.prog 50 #[.agg #[.int .i64 so, .bool fl, .int .u64 bi, .string tx, .int .i64 cn, .slice A n c]] w fun e w' => e = .returned (.bool (((b1 && b2 && b3) && ((!fl || e2) && (z || e3) && (te || e4))) && ((cz || e5) && (nz || e6)))) ∧ Keeps (fun _ => False) w w' := by
 have hb := Blk.new w 44 [.int .i64 so, .bool fl, .int .u64 bi, .string tx, .int .i64 cn, .slice A n c]
 have c0 := hb.cell 0
 have c1 := hb.cell 1
 have c2 := hb.cell 2
 have c3 := hb.cell 3
 have c4 := hb.cell 4
 have c5 := hb.cell 5
 have HK := Lib.hid ((Keeps.refl (fun _ => False) w).alloc (.cells #[.int .i64 so, .bool fl, .int .u64 bi, .string tx, .int .i64 cn, .slice A n c] 44))
 clear hb
 go_enter Tryz.func50, Tryz.ntmps50
 go_upto_region 1 with fail
 go_cut [3] (fun t wx => t = .bool (b1 && b2 && b3) ∧ wx = w.alloc (.cells #[.int .i64 so, .bool fl, .int .u64 bi, .string tx, .int .i64 cn, .slice A n c] 44))
 case first =>
  rcases b1 with _ | _
  ·go_wp2
   go_meet
   exact ⟨rfl, rfl⟩
  ·rcases b2 with _ | _
   ·go_wp2
    go_meet
    exact ⟨rfl, rfl⟩
   ·go_wp2
    go_meet
    exact ⟨rfl, rfl⟩
 case rest =>
  obtain ⟨rfl, rfl⟩ := hcut
  obtain ⟨q1, hq1⟩ : ∃ q1, q1 = (b1 && b2 && b3) := ⟨_, rfl⟩
  rw [← hq1]
  have HQ1 := Lib.hid hq1
  clear hq1 h1 h2 h3
  go_upto_region 2 with fail
  go_cut [3] (fun t wx => t = .bool (q1 && ((!fl || e2) && (z || e3) && (te || e4))) ∧ wx = w.alloc (.cells #[.int .i64 so, .bool fl, .int .u64 bi, .string tx, .int .i64 cn, .slice A n c] 44))
  case first =>
   clear k5 k6 hc hn
   rcases q1 with _ | _
   ·go_wp2
    go_meet
    exact ⟨rfl, rfl⟩
   ·have hfl : (!fl) = !fl := rfl
    rcases fl with _ | _
    ·rcases z with _ | _
     ·rcases e3 with _ | _
      ·go_wp2
       go_meet
       exact ⟨rfl, rfl⟩
      ·rcases te with _ | _ <;> rcases e4 with _ | _ <;> (go_wp2; go_meet; exact ⟨rfl, rfl⟩)
     ·rcases te with _ | _ <;> rcases e4 with _ | _ <;> (go_wp2; go_meet; exact ⟨rfl, rfl⟩)
    ·rcases e2 with _ | _
     ·go_wp2
      go_meet
      exact ⟨rfl, rfl⟩
     ·rcases z with _ | _
      ·rcases e3 with _ | _
       ·go_wp2
        go_meet
        exact ⟨rfl, rfl⟩
       ·rcases te with _ | _ <;> rcases e4 with _ | _ <;> (go_wp2; go_meet; exact ⟨rfl, rfl⟩)
      ·rcases te with _ | _ <;> rcases e4 with _ | _ <;> (go_wp2; go_meet; exact ⟨rfl, rfl⟩)
  case rest =>
   obtain ⟨rfl, rfl⟩ := hcut
   obtain ⟨q2, hq2⟩ : ∃ q2, q2 = (q1 && ((!fl || e2) && (z || e3) && (te || e4))) := ⟨_, rfl⟩
   rw [← hq2]
   have HQ2 := Lib.hid hq2
   clear hq2 k2 k3 k4 hz he
   go_upto_region 3 with fail
   rcases q2 with _ | _
   ·go_wp2
    go_ret
    exact ⟨by rw [← HQ1.out, ← HQ2.out]; rfl, HK.out⟩
   ·rcases cz with _ | _
    ·rcases e5 with _ | _
     ·go_wp2
      go_ret
      exact ⟨by rw [← HQ1.out, ← HQ2.out]; rfl, HK.out⟩
     ·rcases nz with _ | _ <;> rcases e6 with _ | _ <;> (go_wp2; go_ret; exact ⟨by rw [← HQ1.out, ← HQ2.out]; rfl, HK.out⟩)
    ·rcases nz with _ | _ <;> rcases e6 with _ | _ <;> (go_wp2; go_ret; exact ⟨by rw [← HQ1.out, ← HQ2.out]; rfl, HK.out⟩)
theorem used_any (w : World) (s : StepV) (A : Option Addr) (c : Nat) : Calls Tryz.prog 50 #[.agg (stepV s A c).toArray] w fun e w' => e = .returned (.bool (usedF s)) ∧ Keeps (fun _ => False) w w' := by
 obtain ⟨so, fl, bi, tx, cn, ks⟩ := s
 have h := used_walk w so fl bi tx cn A ks.length c _ _ _ _ _ _ _ _ _ _ _ _ rfl rfl rfl rfl rfl rfl rfl rfl rfl (str_empty tx) rfl rfl
 refine h.mono fun e w' hh => ⟨hh.1.trans ?_, hh.2⟩
 congr 2
 have hi : ∀ a b : Int, (a == b) = decide (a = b) := fun a b => by rw [Bool.eq_iff_iff]; simp
 have h1 : decide ((bi : Int) = 0) = decide (bi = 0) := by simp
 have h2 : decide ((ks.length : Int) = 0) = decide (ks.length = 0) := by rw [Bool.eq_iff_iff]; simp
 simp only [usedF, hi, h1, h2, Bool.and_assoc]
end Go.Proofs.YtdmcioghdindfaaGreat
