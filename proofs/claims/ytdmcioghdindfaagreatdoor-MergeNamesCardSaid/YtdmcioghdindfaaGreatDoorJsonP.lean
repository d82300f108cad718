/-
  PLAIN: values, their steps, what steps make.
-/
import Derived.Test.YtdmcioghdindfaaGreatDoorUtfP
set_option linter.unusedSimpArgs false
namespace Go.Json
open Go.Utf
inductive JV where
  | null
  | flag (b : Bool)
  | num (b : Nat)
  | text (s : ByteArray)
  | list (l : List JV)
  | obj (ks : List ByteArray) (l : List JV)
/-- A text's bytes. -/
def sb (s : ByteArray) : List Int := s.data.toList.map fun b => (b.toNat : Int)
theorem sb_len (s : ByteArray) : (sb s).length = s.size := by unfold sb; rw [List.length_map, Array.length_toList]; rfl
theorem sb_inj {s t : ByteArray} (h : sb s = sb t) : s = t := by
  have hi : ∀ a b : UInt8, ((a.toNat : Int)) = b.toNat → a = b := fun a b h => UInt8.toNat_inj.1 (by omega)
  have h2 : ∀ l m : List UInt8, (l.map fun b => (b.toNat : Int)) = (m.map fun b => (b.toNat : Int)) → l = m := by
    intro l
    induction l with
    | nil => intro m h; cases m with | nil => rfl | cons _ _ => cases h
    | cons a l ih => intro m h; cases m with
      | nil => cases h
      | cons b m =>
        simp only [List.map_cons, List.cons.injEq] at h
        rw [hi a b h.1, ih m h.2]
  have h3 := h2 _ _ h
  cases s; cases t
  congr
  exact Array.toList_inj.1 h3
theorem JV.size_list {l : List JV} {x : JV} (h : x ∈ l) : SizeOf.sizeOf x < SizeOf.sizeOf (JV.list l) := by
  have := List.sizeOf_lt_of_mem h
  simp
  omega
theorem JV.size_obj {ks : List ByteArray} {l : List JV} {x : JV} (h : x ∈ l) : SizeOf.sizeOf x < SizeOf.sizeOf (JV.obj ks l) := by
  have := List.sizeOf_lt_of_mem h
  simp
  omega
theorem JV.ind {P : JV → Prop} (h0 : P .null) (h1 : ∀ b, P (.flag b)) (h2 : ∀ b, P (.num b)) (h3 : ∀ s, P (.text s)) (h4 : ∀ l, (∀ x, x ∈ l → P x) → P (.list l)) (h5 : ∀ ks l, (∀ x, x ∈ l → P x) → P (.obj ks l)) : ∀ t, P t
  | .null => h0
  | .flag b => h1 b
  | .num b => h2 b
  | .text s => h3 s
  | .list l => h4 l fun x _ => JV.ind h0 h1 h2 h3 h4 h5 x
  | .obj ks l => h5 ks l fun x _ => JV.ind h0 h1 h2 h3 h4 h5 x
termination_by t => SizeOf.sizeOf t
decreasing_by
  · exact JV.size_list (by assumption)
  · exact JV.size_obj (by assumption)
def sumN : List Nat → Nat
  | [] => 0
  | x :: l => x + sumN l
def maxN : List Nat → Nat
  | [] => 0
  | x :: l => max x (maxN l)
/-- How many values, how many bytes, how deep. -/
def JV.nodes : JV → Nat
  | .list l => 1 + sumN (l.map fun x => x.nodes)
  | .obj _ l => 1 + sumN (l.map fun x => x.nodes)
  | _ => 1
def JV.bytes : JV → Nat
  | .text s => s.size
  | .list l => sumN (l.map fun x => x.bytes)
  | .obj ks l => sumN (ks.map fun k => k.size) + sumN (l.map fun x => x.bytes)
  | _ => 0
def JV.deep : JV → Nat
  | .list l => maxN (l.map fun x => x.deep) + 1
  | .obj _ l => maxN (l.map fun x => x.deep) + 1
  | _ => 1
def JV.sort : JV → Int
  | .null => 1
  | .flag _ => 2
  | .num _ => 3
  | .text _ => 4
  | .list _ => 5
  | .obj _ _ => 6
def JV.within (v : JV) : Prop := v.nodes ≤ 65536 ∧ v.bytes ≤ 2097152 ∧ v.deep ≤ 512
instance (v : JV) : Decidable v.within := inferInstanceAs (Decidable (_ ∧ _ ∧ _))
def JV.items : JV → List JV
  | .list l => l
  | .obj _ l => l
  | _ => []
def JV.keys : JV → List ByteArray
  | .obj ks _ => ks
  | _ => []
/-- A step. -/
structure StepV where
  sort : Int
  flag : Bool
  bits : Nat
  text : ByteArray
  count : Int
  keys : List ByteArray
def step0 (sort : Int) : StepV := ⟨sort, false, 0, .empty, 0, []⟩
/-- A value's last step. -/
def JV.last : JV → StepV
  | .null => step0 1
  | .flag b => { step0 2 with flag := b }
  | .num b => { step0 3 with bits := b }
  | .text s => { step0 4 with text := s }
  | .list l => { step0 5 with count := l.length }
  | .obj ks _ => { step0 6 with keys := ks }
/-- A value's steps. -/
def JV.steps : JV → List StepV
  | .list l => (l.map fun x => x.steps).flatten ++ [(JV.list l).last]
  | .obj ks l => (l.map fun x => x.steps).flatten ++ [(JV.obj ks l).last]
  | v => [v.last]
theorem JV.steps_eq (v : JV) : v.steps = (v.items.map fun x => x.steps).flatten ++ [v.last] := by
  cases v <;> simp [JV.steps, JV.items]
theorem JV.nodes_eq (v : JV) : v.nodes = 1 + sumN (v.items.map fun x => x.nodes) := by
  cases v <;> simp [JV.nodes, JV.items, sumN]
theorem JV.deep_eq (v : JV) : v.deep = maxN (v.items.map fun x => x.deep) + 1 := by
  cases v <;> simp [JV.deep, JV.items, maxN]
def JV.own : JV → Nat
  | .text s => s.size
  | .obj ks _ => sumN (ks.map fun k => k.size)
  | _ => 0
theorem JV.bytes_eq (v : JV) : v.bytes = v.own + sumN (v.items.map fun x => x.bytes) := by
  cases v <;> simp [JV.bytes, JV.items, sumN, JV.own]
/-- Whether all that a step's sort does not use is zero. -/
def usedF (s : StepV) : Bool :=
  decide (1 ≤ s.sort) && decide (s.sort ≤ 6) && decide (0 ≤ s.count) && (!s.flag || decide (s.sort = 2)) && (decide (s.bits = 0) || decide (s.sort = 3)) && (decide (s.text.size = 0) || decide (s.sort = 4)) &&
    (decide (s.count = 0) || decide (s.sort = 5)) && (decide (s.keys.length = 0) || decide (s.sort = 6))
def finiteF (b : Nat) : Bool := !decide (b / 4503599627370496 % 2048 = 2047)
def rightS (s : ByteArray) : Bool := rightR (sb s)
def ltS (a b : ByteArray) : Prop := ltU (sb a) (sb b)
instance (a b : ByteArray) : Decidable (ltS a b) := inferInstanceAs (Decidable (lexR _ _ < 0))
/-- A member is put among rising ones. -/
def insM (p : ByteArray × JV) : List (ByteArray × JV) → List (ByteArray × JV)
  | [] => [p]
  | q :: l => if ltS p.1 q.1 then p :: q :: l else q :: insM p l
def sortM (l : List (ByteArray × JV)) : List (ByteArray × JV) := l.foldr insM []
/-- The object of keys and values. -/
def mkObj (ks : List ByteArray) (l : List JV) : JV := .obj ((sortM (ks.zip l)).map (·.1)) ((sortM (ks.zip l)).map (·.2))
def mkV (s : StepV) (l : List JV) : JV :=
  if s.sort = 1 then .null
  else if s.sort = 2 then .flag s.flag
  else if s.sort = 3 then .num (if s.bits = 9223372036854775808 then 0 else s.bits)
  else if s.sort = 4 then .text s.text
  else if s.sort = 5 then .list l
  else mkObj s.keys l
/-- What comes of a step: the number of what is wrong, or the row. -/
def doF (P : List JV) (s : StepV) : Int ⊕ List JV :=
  if usedF s = false then .inl 2
  else if s.sort = 3 ∧ finiteF s.bits = false then .inl 104
  else if rightS s.text = false ∨ s.keys.all rightS = false then .inl 100
  else if ¬ s.keys.Nodup then .inl 101
  else if P.length < s.count.toNat + s.keys.length then .inl 102
  else if ¬ (mkV s (P.drop (P.length - (s.count.toNat + s.keys.length)))).within then .inl 3
  else .inr (P.take (P.length - (s.count.toNat + s.keys.length)) ++ [mkV s (P.drop (P.length - (s.count.toNat + s.keys.length)))])
/-- Steps, one behind the other: the number of what is wrong and its place, or the row. -/
def rowF : Nat → List JV → List StepV → (Int × Nat) ⊕ List JV
  | _, P, [] => .inr P
  | i, P, s :: l => match doF P s with
    | .inl e => .inl (e, i)
    | .inr P' => rowF (i + 1) P' l
/-- What steps make. -/
def buildF (l : List StepV) : (Int × Option Nat) ⊕ JV :=
  if 65536 < l.length then .inl (3, none)
  else match rowF 0 [] l with
  | .inl (e, i) => .inl (e, some i)
  | .inr P => match P with
    | [v] => .inr v
    | _ => .inl (103, some l.length)
theorem ltS_irrefl (a : ByteArray) : ¬ ltS a a := ltU_irrefl _
theorem ltS_trans {a b c : ByteArray} (h : ltS a b) (h2 : ltS b c) : ltS a c := ltU_trans h h2
theorem ltS_tri {a b : ByteArray} (ha : rightS a = true) (hb : rightS b = true) : ltS a b ∨ a = b ∨ ltS b a := by
  rcases ltU_tri ha hb with h | h | h
  · exact .inl h
  · exact .inr (.inl (sb_inj h))
  · exact .inr (.inr h)
/-- Members by rising keys. -/
def Rising (l : List (ByteArray × JV)) : Prop := l.Pairwise fun p q => ltS p.1 q.1
theorem insM_perm (p : ByteArray × JV) : ∀ l, (insM p l).Perm (p :: l)
  | [] => .refl _
  | q :: l => by
    unfold insM
    split
    · exact .refl _
    · exact ((insM_perm p l).cons q).trans (.swap p q l)
theorem sortM_perm : ∀ l, (sortM l).Perm l
  | [] => .refl _
  | p :: l => (insM_perm p (sortM l)).trans ((sortM_perm l).cons p)
theorem insM_rising (p : ByteArray × JV) : ∀ (l : List (ByteArray × JV)), Rising l → (∀ q ∈ l, ltS p.1 q.1 ∨ ltS q.1 p.1) → Rising (insM p l)
  | [], _, _ => List.pairwise_singleton _ _
  | q :: l, h, hd => by
    have h' := List.pairwise_cons.1 h
    unfold insM
    split
    · rename_i hlt
      refine List.pairwise_cons.2 ⟨fun r hr => ?_, h⟩
      rcases List.mem_cons.1 hr with rfl | hr
      · exact hlt
      · exact ltS_trans hlt (h'.1 r hr)
    · rename_i hlt
      refine List.pairwise_cons.2 ⟨fun r hr => ?_, insM_rising p l h'.2 fun r hr => hd r (List.mem_cons_of_mem _ hr)⟩
      rcases List.mem_cons.1 ((insM_perm p l).mem_iff.1 hr) with rfl | hr
      · exact (hd q List.mem_cons_self).resolve_left hlt
      · exact h'.1 r hr
/-- Keys that are right and no two alike come to rise. -/
theorem sortM_rising : ∀ (l : List (ByteArray × JV)), (l.map (·.1)).Nodup → (∀ p ∈ l, rightS p.1 = true) → Rising (sortM l)
  | [], _, _ => .nil
  | p :: l, hn, hr => by
    rw [List.map_cons, List.nodup_cons] at hn
    refine insM_rising p (sortM l) (sortM_rising l hn.2 fun q hq => hr q (List.mem_cons_of_mem _ hq)) fun q hq => ?_
    have hq := (sortM_perm l).mem_iff.1 hq
    rcases ltS_tri (hr p List.mem_cons_self) (hr q (List.mem_cons_of_mem _ hq)) with h | h | h
    · exact .inl h
    · exact absurd (h ▸ List.mem_map.2 ⟨q, hq, rfl⟩) hn.1
    · exact .inr h
theorem rising_one {α : Type} (lt : α → α → Prop) (h1 : ∀ x, ¬ lt x x) (h2 : ∀ x y z, lt x y → lt y z → lt x z) {l m : List α} (hl : l.Pairwise lt) (hm : m.Pairwise lt) (h : ∀ x, x ∈ l ↔ x ∈ m) : l = m :=
  rising_unique lt h1 h2 l m hl hm h
def ltM (p q : ByteArray × JV) : Prop := ltS p.1 q.1
theorem ltM_irrefl (p : ByteArray × JV) : ¬ ltM p p := ltS_irrefl p.1
theorem ltM_trans (p q r : ByteArray × JV) (h : ltM p q) (h2 : ltM q r) : ltM p r := ltS_trans h h2
/-- Rising members of the same are one. -/
theorem rising_eq {l m : List (ByteArray × JV)} (hl : Rising l) (hm : Rising m) (h : ∀ x, x ∈ l ↔ x ∈ m) : l = m :=
  rising_one ltM ltM_irrefl ltM_trans hl hm h
theorem ltS_irr (a : ByteArray) : ¬ ltS a a := ltS_irrefl a
theorem ltS_tr (a b c : ByteArray) (h : ltS a b) (h2 : ltS b c) : ltS a c := ltS_trans h h2
theorem rising_keys {l m : List ByteArray} (hl : l.Pairwise ltS) (hm : m.Pairwise ltS) (h : ∀ x, x ∈ l ↔ x ∈ m) : l = m :=
  rising_one ltS ltS_irr ltS_tr hl hm h
theorem sortM_of_rising {l : List (ByteArray × JV)} (h : Rising l) : sortM l = l := by
  have hn : ∀ {l : List (ByteArray × JV)}, Rising l → sortM l = l := by
    intro l
    induction l with
    | nil => intro _; rfl
    | cons p l ih =>
      intro h
      have h' := List.pairwise_cons.1 h
      show insM p (sortM l) = _
      rw [ih h'.2]
      match l with
      | [] => rfl
      | q :: l =>
        unfold insM
        rw [if_pos (h'.1 q List.mem_cons_self)]
  exact hn h
end Go.Json
