/-
  Equality of rows of integers (arrays): what == tells.
-/
import Derived.Test.YtnlnbgjpbnjjfaaDoorMem
import Derived.ChangeKeysEq
import Derived.Laws.StructEq
namespace Go.Aff
open Go Go.RowKit
theorem part_one {P : Program} (w : World) (e : TypeId) (d : TypeDesc) (hd : P.underlying e = some d) (ha : (match d with | .struct _ | .array _ _ => false | _ => true) = true) (cs : Array Value) (i : Nat) (v : Value) (hv : cs[i]? = some v) : (part e cs i).run P w = .ok v w := by
  have hagg : (isAgg e).run P w = .ok false w := by cases d <;> simp [isAgg, run_underlying hd] at ha ⊢
  simp [part, hagg, hv]
theorem run_eqItems_row {P : Program} (w : World) (dd : Nat) (e : TypeId) (k : IntKind) (hd : P.underlying e = some (.int k)) (xs ys : List Int) : ∀ l : List Nat, (∀ i ∈ l, i < xs.length ∧ i < ys.length) →
    (Op.eqItems (dd + 1) e 1 (xs.map (Value.int k)).toArray (ys.map (Value.int k)).toArray l).run P w = .ok (l.all fun i => xs[i]? == ys[i]?) w := by
  intro l
  induction l with
  | nil => intro _; simp [Op.eqItems]
  | cons i l ih =>
    intro h
    obtain ⟨h1, h2⟩ := h i (by simp)
    have p1 := part_one (P := P) w e _ hd rfl (xs.map (Value.int k)).toArray i (.int k xs[i]) (by simp [h1])
    have p2 := part_one (P := P) w e _ hd rfl (ys.map (Value.int k)).toArray i (.int k ys[i]) (by simp [h2])
    have p3 := run_equalIn_int (P := P) w dd e k k xs[i] ys[i] hd
    simp only [Op.eqItems, Sem.run_bind, Nat.mul_one, p1, p2, p3, Result.andThen_ok, List.all_cons, List.getElem?_eq_getElem h1, List.getElem?_eq_getElem h2]
    by_cases hx : xs[i] = ys[i]
    · simp [hx, ih (fun j hj => h j (by simp [hj]))]
    · simp [hx]

theorem run_eql_row {P : Program} (w : World) {t e : TypeId} {n : Nat} {k : IntKind} (hu : P.underlying t = some (.array n e)) (hd : P.underlying e = some (.int k)) (hs0 : (P.info? e).map (·.size) = some 1)
    (xs ys : List Int) (hx : xs.length = n) (hy : ys.length = n) : (binOp .eql t (.agg (xs.map (Value.int k)).toArray) (.agg (ys.map (Value.int k)).toArray)).run P w = .ok (.bool (decide (xs = ys))) w := by
  obtain ⟨i, hi, hsz⟩ := Option.map_eq_some_iff.1 hs0
  have hs : P.cellsOf e = 1 := by simp [Program.cellsOf, hi, hsz]
  rw [run_eql_struct, run_equalIn_array w 9999 _ _ hu hi, hs, run_eqItems_row w 9998 e k hd xs ys _ (by intro i hi; simp at hi; omega)]
  simp only [Result.andThen_ok]
  congr 2
  rw [Bool.eq_iff_iff]
  simp only [List.all_eq_true, List.mem_range, beq_iff_eq, decide_eq_true_iff]
  constructor
  · intro h
    apply List.ext_getElem?
    intro j
    by_cases hj : j < n
    · exact h j hj
    · rw [List.getElem?_eq_none (by omega), List.getElem?_eq_none (by omega)]
  · rintro rfl i _; rfl
end Go.Aff
