/-
  Opening the steps: a slice of structures of three numbers, a string, a number.
-/
import Derived.Test.YtinonjfnhedlpaaDoorFBuildW
import Derived.Test.YtinonjfnhedlpaaDoorOpenK
import Derived.Deep.Slices
import Derived.Deep.Strs
set_option linter.unusedSimpArgs false
namespace Go.Proofs.YtinonjfnhedlpaaDoor
open Go Go.RowKit Go.Aff Go.Fault Go.ChangeShapes Go.WideShapes Go.Deep
section
variable {H : Type} {enc : TypeId × Value → H} {w : World} {base : Nat} {held : Bool}
theorem trod_fields5 {P : Program} {spare : Nat → Bool} {t : TypeId} {f0 f1 f2 f3 f4 : Field} {fuel : Nat} {cs : List Value} {x : DataW H × List MemPlace} (ht : P.underlying t = some (.struct #[f0, f1, f2, f3, f4])) (h : DataW.trod enc P w base spare held fuel t cs = some x) :
    ∃ y0 y1 y2 y3 y4 n, x.1 = .agg [y0.1, y1.1, y2.1, y3.1, y4.1] ∧ DataW.trod enc P w base spare held n f0.type ((cs.drop f0.offset).take (P.cellsOf f0.type)) = some y0 ∧
      DataW.trod enc P w base spare held n f1.type ((cs.drop f1.offset).take (P.cellsOf f1.type)) = some y1 ∧ DataW.trod enc P w base spare held n f2.type ((cs.drop f2.offset).take (P.cellsOf f2.type)) = some y2 ∧
      DataW.trod enc P w base spare held n f3.type ((cs.drop f3.offset).take (P.cellsOf f3.type)) = some y3 ∧ DataW.trod enc P w base spare held n f4.type ((cs.drop f4.offset).take (P.cellsOf f4.type)) = some y4 := by
  obtain ⟨xs, n, _, rfl, hl, hlen, hf⟩ := DataW.trod_struct ht h
  match xs, hlen with
  | [y0, y1, y2, y3, y4], _ => exact ⟨y0, y1, y2, y3, y4, n, by simp, by simpa using hf 0 f0 rfl, by simpa using hf 1 f1 rfl, by simpa using hf 2 f2 rfl, by simpa using hf 3 f3 rfl, by simpa using hf 4 f4 rfl⟩
theorem pieces5 {α : Type} (l : List α) (h : l.length = 5) : l = (l.drop 0).take 1 ++ ((l.drop 1).take 1 ++ ((l.drop 2).take 1 ++ ((l.drop 3).take 1 ++ (l.drop 4).take 1))) := by
  match l, h with
  | [a, b, c, d, e], _ => rfl
theorem open_cause {fuel : Nat} {cs : List Value} {x : DataW H × List MemPlace} (hcl : cs.length = 5) (h : DataW.trod enc Tryd.prog w base (fun _ => true) held fuel 65 cs = some x) : ∃ o : CauseV, cs = causeCells o := by
  have cI : Tryd.prog.cellsOf 3 = 1 := by kernel_rfl
  have cE : Tryd.prog.cellsOf 33 = 1 := by kernel_rfl
  have cS : Tryd.prog.cellsOf 9 = 1 := by kernel_rfl
  obtain ⟨y0, y1, y2, y3, y4, n, hx, h0, h1, h2, h3, h4⟩ := trod_fields5 Tryd.underlying65 h
  simp only [cI] at h0 h2 h4
  simp only [cE] at h1
  simp only [cS] at h3
  obtain ⟨z0, e0, _, _⟩ := DataW.trod_int Tryd.underlying3 h0
  obtain ⟨z1, e1, _, _⟩ := DataW.trod_int Tryd.underlying33 h1
  obtain ⟨z2, e2, _, _⟩ := DataW.trod_int Tryd.underlying3 h2
  obtain ⟨s3, e3, _, _⟩ := DataW.trod_string Tryd.underlying9 h3
  obtain ⟨z4, e4, _, _⟩ := DataW.trod_int Tryd.underlying3 h4
  refine ⟨⟨z0, z1, z2, s3, z4⟩, ?_⟩
  rw [pieces5 cs hcl]
  erw [e0, e1, e2, e3, e4]
  rfl
set_option maxRecDepth 100000 in
theorem open_causes {r : Reach} {b0 : Nat} {v : Value} {d : DataW H} {p : List MemPlace} (hv : Value.okWide Tryd.prog w r b0 22 v) (h : DataW.Trod enc Tryd.prog w base (fun _ => true) held 22 v d p) :
    ∃ (A : Option Addr) (n c : Nat) (cs : List CauseV), v = .slice A n c ∧ cs.length = n ∧ CausesAt w A cs := by
  obtain ⟨A, n, c, rfl⟩ := okWide_slice Tryd.underlying22 hv
  obtain ⟨fuel, hf⟩ := h
  have c5 : Tryd.prog.cellsOf 65 = 5 := by kernel_rfl
  rcases open_slice Tryd.underlying22 hf with ⟨hcs, hx⟩ | ⟨a, len, cap, m, nn, D, Pl, hcs, _, hl, hm, hmm, hx, hi⟩
  · simp [Value.cells] at hcs
    obtain ⟨rfl, rfl, rfl⟩ := hcs
    exact ⟨none, 0, 0, [], rfl, rfl, (fun k op hk => by simp at hk)⟩
  · simp [Value.cells] at hcs
    obtain ⟨rfl, rfl, rfl⟩ := hcs
    simp only [if_true] at hmm
    have hone : ∀ k, k < n → ∃ op : CauseV, ∀ j v, (causeCells op)[j]? = some v → w.cell? (a.add (k * 5 + j)) = some v := fun k hkn => by
      obtain ⟨cs', hc, ht⟩ := hi k (by omega)
      rw [c5] at hc
      obtain ⟨_, hcl, hat⟩ := World.cells?_some hc
      obtain ⟨o, ho⟩ := open_cause hcl ht
      refine ⟨o, fun j v hj => ?_⟩
      rw [← ho] at hj
      have hlt := (List.getElem?_eq_some_iff.1 hj).1
      have := hat j (by omega)
      rw [add_add] at this
      exact this.trans hj
    obtain ⟨f, hfun⟩ : ∃ f : Nat → CauseV, ∀ k, k < n → ∀ j v, (causeCells (f k))[j]? = some v → w.cell? (a.add (k * 5 + j)) = some v :=
      ⟨fun k => if hk : k < n then Classical.choose (hone k hk) else ⟨0, 0, 0, ⟨#[]⟩, 0⟩, fun k hk => by
        simp only [hk, dif_pos]
        exact Classical.choose_spec (hone k hk)⟩
    refine ⟨some a, n, c, (List.range n).map f, rfl, by simp, fun k op hk => ?_⟩
    have hkn : k < n := by
      have := (List.getElem?_eq_some_iff.1 hk).1
      simpa using this
    have he : op = f k := by simpa [hkn] using hk.symm
    subst he
    have h1 := hfun k hkn
    have h0 := hfun 0 (by omega) 0 _ rfl
    obtain ⟨g, o, spot⟩ := a
    have hs : spot = none := by simpa [Addr.add] using World.cell?_spot h0
    subst hs
    refine ⟨g, o, rfl, fun j v hj => ?_⟩
    have := h1 j v hj
    rw [add_at, ← Nat.add_assoc] at this
    exact this
end
end Go.Proofs.YtinonjfnhedlpaaDoor
