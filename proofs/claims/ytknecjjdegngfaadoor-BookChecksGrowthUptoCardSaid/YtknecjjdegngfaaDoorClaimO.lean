/-
  Opening a claim: a structure of a slice of rows of bytes, two numbers, two digests, a slice of digests, two bools.
-/
import Derived.Test.YtknecjjdegngfaaDoorCardK
import Derived.Test.YtknecjjdegngfaaDoorDigsO
import Derived.Test.YtknecjjdegngfaaDoorSettledW
import Derived.Lib.SmallJoins
import Derived.ChangeArms
set_option linter.unusedSimpArgs false
namespace Go.Proofs.YtknecjjdegngfaaDoor
open Go.Joins Go Go.RowKit Go.Sha Go.Aff Go.ChangeShapes Go.WideShapes Go.ChangeAt
section
variable {H : Type} {enc : TypeId × Value → H} {w : World} {base : Nat} {held : Bool}
theorem trod_struct8 {P : Program} {spare : Nat → Bool} {t : TypeId} {f0 f1 f2 f3 f4 f5 f6 f7 : Field} {fuel : Nat} {cs : List Value} {x : DataW H × List MemPlace} (ht : P.underlying t = some (.struct #[f0, f1, f2, f3, f4, f5, f6, f7])) (h : DataW.trod enc P w base spare held fuel t cs = some x) :
    ∃ y0 y1 y2 y3 y4 y5 y6 y7 n, x.1 = .agg [y0.1, y1.1, y2.1, y3.1, y4.1, y5.1, y6.1, y7.1] ∧ cs.length = P.cellsOf t ∧ DataW.trod enc P w base spare held n f0.type ((cs.drop f0.offset).take (P.cellsOf f0.type)) = some y0 ∧
      DataW.trod enc P w base spare held n f1.type ((cs.drop f1.offset).take (P.cellsOf f1.type)) = some y1 ∧ DataW.trod enc P w base spare held n f2.type ((cs.drop f2.offset).take (P.cellsOf f2.type)) = some y2 ∧
      DataW.trod enc P w base spare held n f3.type ((cs.drop f3.offset).take (P.cellsOf f3.type)) = some y3 ∧ DataW.trod enc P w base spare held n f4.type ((cs.drop f4.offset).take (P.cellsOf f4.type)) = some y4 ∧
      DataW.trod enc P w base spare held n f5.type ((cs.drop f5.offset).take (P.cellsOf f5.type)) = some y5 ∧ DataW.trod enc P w base spare held n f6.type ((cs.drop f6.offset).take (P.cellsOf f6.type)) = some y6 ∧
      DataW.trod enc P w base spare held n f7.type ((cs.drop f7.offset).take (P.cellsOf f7.type)) = some y7 := by
  obtain ⟨xs, n, _, rfl, hl, hlen, hf⟩ := DataW.trod_struct ht h
  match xs, hlen with
  | [y0, y1, y2, y3, y4, y5, y6, y7], _ => exact ⟨y0, y1, y2, y3, y4, y5, y6, y7, n, by simp, hl, by simpa using hf 0 f0 rfl, by simpa using hf 1 f1 rfl, by simpa using hf 2 f2 rfl, by simpa using hf 3 f3 rfl, by simpa using hf 4 f4 rfl, by simpa using hf 5 f5 rfl, by simpa using hf 6 f6 rfl, by simpa using hf 7 f7 rfl⟩
theorem pieces8 {α : Type} (l : List α) (h : l.length = 70) : l = (l.drop 0).take 1 ++ ((l.drop 1).take 1 ++ ((l.drop 2).take 1 ++ ((l.drop 3).take 32 ++ ((l.drop 35).take 32 ++ ((l.drop 67).take 1 ++ ((l.drop 68).take 1 ++ (l.drop 69).take 1)))))) := by
  have e : ∀ a b, l.drop a = (l.drop a).take b ++ l.drop (a + b) := fun a b => by
    rw [← List.drop_drop]; exact (List.take_append_drop b (l.drop a)).symm
  have e7 : l.drop 69 = (l.drop 69).take 1 := by rw [List.take_of_length_le (by rw [List.length_drop]; omega)]
  have e6 := e 68 1
  have e5 := e 67 1
  have e4 := e 35 32
  have e3 := e 3 32
  have e2 := e 2 1
  have e1 := e 1 1
  have e0 := e 0 1
  simp only [Nat.reduceAdd] at e0 e1 e2 e3 e4 e5 e6
  conv => lhs; rw [show l = l.drop 0 by simp, e0, e1, e2, e3, e4, e5, e6, e7]
set_option maxRecDepth 100000 in
theorem open_claim {r : Reach} {b0 : Nat} {v : Value} {d : DataW H} {p : List MemPlace} (hv : Value.okWide Tryd.prog w r b0 50 v) (h : DataW.Trod enc Tryd.prog w base (fun _ => true) held 50 v d p) :
    ∃ (A : Option Addr) (N c : Nat) (pss : List (List Int)) (vals : List Value) (m n : Int) (old root : List Int) (B : Option Addr) (L e : Nat) (ps : List (List Int)) (ofM ofN : Bool) (d0 : DataW H) (ds : List (DataW H)),
      v = .agg (claimV (.slice A N c) m n old root (.slice B L e) ofM ofN).toArray ∧ d = .agg (d0 :: ds) ∧ N ≤ c ∧ pss.length = N ∧ Rd w A N vals ∧
      (∀ (i : Nat) (bs : List Int), pss[i]? = some bs → ∃ A' c', vals[i]? = some (Value.slice A' bs.length c') ∧ Rd w A' bs.length (vb bs) ∧ IsBytes bs ∧ bs.length ≤ c') ∧ PartsData d0 pss ∧
      IsDig old ∧ IsDig root ∧ RdD w B L ps ∧ L ≤ e := by
  have hv' := hv
  simp only [Value.okWide, Tryd.underlying50] at hv'
  obtain ⟨cs, rfl, hcs, ts, hts, _, hcell⟩ := hv'
  have hsz : cs.toList.length = 70 := by rw [Array.length_toList, hcs]; kernel_rfl
  have htl : (Tryd.prog.cellTypes Tryd.prog.depth 50).map (·.length) = some 70 := by kernel_rfl
  have ht0 : (Tryd.prog.cellTypes Tryd.prog.depth 50).bind (·[0]?) = some 26 := by kernel_rfl
  have ht67 : (Tryd.prog.cellTypes Tryd.prog.depth 50).bind (·[67]?) = some 36 := by kernel_rfl
  rw [hts] at ht0 ht67 htl
  simp only [Option.bind_some] at ht0 ht67
  replace htl : ts.length = 70 := by simpa using htl
  obtain ⟨c0, hc0⟩ : ∃ c0, cs[0]? = some c0 := ⟨cs[0]'(by simp at hsz; omega), Array.getElem?_eq_getElem (by simp at hsz; omega)⟩
  obtain ⟨c5, hc5⟩ : ∃ c5, cs[67]? = some c5 := ⟨cs[67]'(by simp at hsz; omega), Array.getElem?_eq_getElem (by simp at hsz; omega)⟩
  have k0 : Value.okWide Tryd.prog w r b0 26 c0 := by
    obtain ⟨u, hu, hc⟩ := hcell 0 c0 hc0
    rw [htl, ht0] at hu
    obtain rfl : 26 = u := by simpa using hu
    simp only [Value.okWide, Tryd.underlying26]
    exact hc
  have k5 : Value.okWide Tryd.prog w r b0 36 c5 := by
    obtain ⟨u, hu, hc⟩ := hcell 67 c5 hc5
    rw [htl, ht67] at hu
    obtain rfl : 36 = u := by simpa using hu
    simp only [Value.okWide, Tryd.underlying36]
    exact hc
  obtain ⟨fuel, hf⟩ := h
  obtain ⟨y0, y1, y2, y3, y4, y5, y6, y7, nn, hx, _, h0, h1, h2, h3, h4, h5, h6, h7⟩ := trod_struct8 Tryd.underlying50 hf
  have z0 : Tryd.prog.cellsOf 26 = 1 := by kernel_rfl
  have z1 : Tryd.prog.cellsOf 3 = 1 := by kernel_rfl
  have z3 : Tryd.prog.cellsOf 24 = 32 := by kernel_rfl
  have z5 : Tryd.prog.cellsOf 36 = 1 := by kernel_rfl
  have z6 : Tryd.prog.cellsOf 4 = 1 := by kernel_rfl
  have zu : Tryd.prog.cellsOf 5 = 1 := by kernel_rfl
  simp only [z0] at h0
  simp only [z1] at h1 h2
  simp only [z3] at h3 h4
  simp only [z5] at h5
  simp only [z6] at h6 h7
  have hcells : (Value.agg cs).cells.toList = cs.toList := rfl
  obtain ⟨m, e1, _, _⟩ := DataW.trod_int Tryd.underlying3 h1
  obtain ⟨n, e2, _, _⟩ := DataW.trod_int Tryd.underlying3 h2
  obtain ⟨old, e3, hold⟩ := open_dig_cells Tryd.underlying24 Tryd.underlying5 zu z3 h3
  obtain ⟨root, e4, hroot⟩ := open_dig_cells Tryd.underlying24 Tryd.underlying5 zu z3 h4
  obtain ⟨ofM, e6, _⟩ := DataW.trod_bool Tryd.underlying4 h6
  obtain ⟨ofN, e7, _⟩ := DataW.trod_bool Tryd.underlying4 h7
  have q0 : ((Value.agg cs).cells.toList.drop 0).take 1 = [c0] := by
    rw [hcells]
    have : cs.toList[0]? = some c0 := by simpa using hc0
    rw [List.drop_zero]
    cases hl : cs.toList with
    | nil => rw [hl] at this; cases this
    | cons a l => rw [hl] at this; simp at this; subst this; simp
  have q5 : ((Value.agg cs).cells.toList.drop 67).take 1 = [c5] := by
    rw [hcells]
    have h9 : (cs.toList.drop 67)[0]? = some c5 := by rw [List.getElem?_drop]; simpa using hc5
    cases hl : cs.toList.drop 67 with
    | nil => rw [hl] at h9; cases h9
    | cons a l => rw [hl] at h9; simp at h9; subst h9; simp
  rw [q0] at h0
  rw [q5] at h5
  obtain ⟨A0, n0, c0', rfl⟩ := okWide_slice Tryd.underlying26 k0
  obtain ⟨A1, n1, c1', rfl⟩ := okWide_slice Tryd.underlying36 k5
  obtain ⟨A, N, c, pss, vals, ev, le, lx, Rx, Vx, Dx⟩ := open_parts Tryd.underlying26 Tryd.underlying22 Tryd.underlying5 (by kernel_rfl) (by kernel_rfl) k0 (d := y0.1) (p := y0.2) ⟨nn, by simpa [Value.cells] using h0⟩
  obtain ⟨B, L, e, ps, ev', Rd5, le5⟩ := open_digs Tryd.underlying36 Tryd.underlying24 Tryd.underlying5 z3 zu k5 (d := y5.1) (p := y5.2) ⟨nn, by simpa [Value.cells] using h5⟩
  refine ⟨A, N, c, pss, vals, m, n, old, root, B, L, e, ps, ofM, ofN, y0.1, [y1.1, y2.1, y3.1, y4.1, y5.1, y6.1, y7.1], ?_, ?_, le, lx, Rx, Vx, Dx, hold, hroot, Rd5, le5⟩
  · have hp := pieces8 cs.toList hsz
    rw [hcells] at e1 e2 e3 e4 e6 e7 q0 q5
    rw [q0, q5] at hp
    have hp2 : cs.toList = claimV (.slice A N c) m n old root (.slice B L e) ofM ofN := by
      rw [hp]
      erw [e1, e2, e3, e4, e6, e7]
      rw [ev, ev']
      rfl
    rw [← hp2]
  · exact hx
end
end Go.Proofs.YtknecjjdegngfaaDoor
