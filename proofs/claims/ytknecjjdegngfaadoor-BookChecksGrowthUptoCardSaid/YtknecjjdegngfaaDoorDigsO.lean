/-
  Opening a slice of digests.
-/
import Derived.Test.YtknecjjdegngfaaDoorCardK
import Derived.Test.YtknecjjdegngfaaDoorDigsK
import Derived.Deep.Slices
set_option linter.unusedSimpArgs false
namespace Go.Aff
open Go Go.RowKit Go.ChangeShapes Go.WideShapes Go.Deep
section
variable {H : Type} {enc : TypeId × Value → H} {P : Program} {w : World} {base : Nat} {held : Bool}
/-- An array of bytes, by its cells. -/
theorem open_dig_cells {fuel : Nat} {sp : Nat → Bool} {t e : TypeId} {cs : List Value} {x : DataW H × List MemPlace} (ht : P.underlying t = some (.array 32 e)) (he : P.underlying e = some (.int .u8)) (ce : P.cellsOf e = 1) (ct : P.cellsOf t = 32)
    (h : DataW.trod enc P w base sp held fuel t cs = some x) : ∃ d, cs = vb d ∧ IsDig d := by
  obtain ⟨ys, m, _, _, hl, hyl, hd⟩ := DataW.trod_array ht h
  rw [ct] at hl
  obtain ⟨zs, hzs, hw⟩ := ints_of_cells (k := .u8) cs (fun i hi => by
    have h1 := hd i (by omega)
    rw [ce, Nat.mul_one] at h1
    have h2 : ∃ y, ys[i]? = some y := ⟨_, List.getElem?_eq_getElem (by omega)⟩
    obtain ⟨y, hy⟩ := h2
    rw [hy] at h1
    obtain ⟨z, e1, _, e2⟩ := DataW.trod_int he h1
    refine ⟨z, ?_, e2⟩
    have h3 := congrArg (·[0]?) e1
    simpa [List.getElem?_take, List.getElem?_drop, Value.cells] using h3)
  refine ⟨zs, hzs, ?_, isBytes_of hw⟩
  have := congrArg List.length hzs
  simp [vi] at this
  omega
/-- A SLICE OF DIGESTS. -/
theorem open_digs {r : Reach} {b0 : Nat} {t e q : TypeId} {v : Value} {d : DataW H} {p : List MemPlace} (ht : P.underlying t = some (.slice e)) (he : P.underlying e = some (.array 32 q)) (hq : P.underlying q = some (.int .u8)) (ce : P.cellsOf e = 32) (cq : P.cellsOf q = 1)
    (hv : Value.okWide P w r b0 t v) (h : DataW.Trod enc P w base (fun _ => true) held t v d p) :
    ∃ (A : Option Addr) (n c : Nat) (ds : List (List Int)), v = .slice A n c ∧ RdD w A n ds ∧ n ≤ c := by
  obtain ⟨A, n, c, rfl⟩ := okWide_slice ht hv
  obtain ⟨fuel, hf⟩ := h
  rcases open_slice ht hf with ⟨hcs, hx⟩ | ⟨a, len, cap, m, nn, D, Pl, hcs, _, hl, hm, hmm, hx, hi⟩
  · simp [Value.cells] at hcs
    obtain ⟨rfl, rfl, rfl⟩ := hcs
    exact ⟨none, 0, 0, [], rfl, RdD.nil _ _, Nat.le_refl _⟩
  · simp [Value.cells] at hcs
    obtain ⟨rfl, rfl, rfl⟩ := hcs
    simp only [if_true] at hmm
    have hone : ∀ k, k < n → ∃ d : List Int, IsDig d ∧ ∀ j, j < 32 → w.cell? (a.add (k * 32 + j)) = (vb d)[j]? := fun k hk => by
      obtain ⟨cs', hc, ht'⟩ := hi k (by omega)
      rw [ce] at hc
      obtain ⟨_, hcl, hat⟩ := World.cells?_some hc
      obtain ⟨d, rfl, hd⟩ := open_dig_cells he hq cq ce ht'
      refine ⟨d, hd, fun j hj => ?_⟩
      have := hat j (by omega)
      rw [add_add] at this
      exact this
    obtain ⟨f, hfun⟩ : ∃ f : Nat → List Int, ∀ k, k < n → IsDig (f k) ∧ ∀ j, j < 32 → w.cell? (a.add (k * 32 + j)) = (vb (f k))[j]? :=
      ⟨fun k => if hk : k < n then Classical.choose (hone k hk) else [], fun k hk => by
        simp only [hk, dif_pos]
        exact Classical.choose_spec (hone k hk)⟩
    have hds : IsDigs ((List.range n).map f) := fun d hd => by
      simp only [List.mem_map, List.mem_range] at hd
      obtain ⟨k, hk, rfl⟩ := hd
      exact (hfun k hk).1
    refine ⟨some a, n, c, (List.range n).map f, rfl, ⟨by simp, hds, ?_⟩, hl⟩
    refine rd_at (by rw [dg_length hds]; simp) (fun h => by cases h) (fun a' ha j hj => ?_)
    injection ha with ha
    subst ha
    have hk : j / 32 < n := by omega
    have h1 := (hfun (j / 32) hk).2 (j % 32) (by omega)
    rw [show j / 32 * 32 + j % 32 = j by omega] at h1
    rw [h1]
    have h2 : (dg ((List.range n).map f))[j]? = ((dg ((List.range n).map f)).drop (j / 32 * 32))[j % 32]? := by
      rw [List.getElem?_drop]
      congr 1
      omega
    rw [h2, dg_drop _ hds]
    have h3 : ((List.range n).map f).drop (j / 32) = f (j / 32) :: ((List.range n).map f).drop (j / 32 + 1) := by
      rw [List.drop_eq_getElem_cons (by simpa using hk)]
      simp
    rw [h3, dg_cons, List.getElem?_append_left (by rw [vb_length, (hfun _ hk).1.1]; omega)]
end
end Go.Aff
