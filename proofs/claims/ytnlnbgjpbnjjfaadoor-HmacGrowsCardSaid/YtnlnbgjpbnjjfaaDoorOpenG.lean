/-
  Opening a Grow: a structure of two slices of bytes and two numbers.
-/
import Derived.Test.YtnlnbgjpbnjjfaaDoorCardK
import Derived.Test.YtnlnbgjpbnjjfaaDoorBaseW
import Derived.Lib.SmallJoins
namespace Go.Proofs.YtnlnbgjpbnjjfaaDoor
open Go.Joins Go Go.RowKit Go.Sha Go.Aff Go.ChangeShapes Go.WideShapes Go.ChangeAt
section
variable {H : Type} {enc : TypeId × Value → H} {w : World} {base : Nat} {held : Bool}
set_option maxRecDepth 100000 in
theorem open_grow {r : Reach} {b0 : Nat} {v : Value} {d : DataW H} {p : List MemPlace} (hv : Value.okWide Tryd.prog w r b0 47 v) (h : DataW.Trod enc Tryd.prog w base (fun _ => true) held 47 v d p) :
    ∃ (A : Option Addr) (n c : Nat) (xs : List Int) (B : Option Addr) (m e : Nat) (ys : List Int) (x y : Int) (d0 d1 d2 d3 : DataW H), v = .agg #[.slice A n c, .slice B m e, .int .i64 x, .int .i64 y] ∧ d = .agg [d0, d1, d2, d3] ∧
      (n ≤ c ∧ xs.length = c ∧ (∀ z ∈ xs, (Lit.int .u8 z).wf = true) ∧ Rd w A c (vi .u8 xs) ∧ (d0 = .nil ∧ A = none ∧ c = 0 ∨ ∃ es sp, d0 = .slice es sp ∧ es.length + sp.length = c)) ∧
      (m ≤ e ∧ ys.length = e ∧ (∀ z ∈ ys, (Lit.int .u8 z).wf = true) ∧ Rd w B e (vi .u8 ys) ∧ (d1 = .nil ∧ B = none ∧ e = 0 ∨ ∃ es sp, d1 = .slice es sp ∧ es.length + sp.length = e)) := by
  have hv' := hv
  simp only [Value.okWide, Tryd.underlying47] at hv'
  obtain ⟨cs, rfl, hcs, ts, hts, _, hcell⟩ := hv'
  have ht : Tryd.prog.cellTypes Tryd.prog.depth 47 = some [22, 22, 3, 3] := by kernel_rfl
  rw [ht] at hts
  obtain rfl := (Option.some.inj hts)
  obtain ⟨c0, c1, c2, c3, rfl⟩ := array4 (hcs.trans (by kernel_rfl))
  have k0 : Value.okWide Tryd.prog w r b0 22 c0 := by
    obtain ⟨u, hu, hc⟩ := hcell 0 c0 rfl
    obtain rfl : 22 = u := by simpa using hu
    simp only [Value.okWide, Tryd.underlying22]
    exact hc
  have k1 : Value.okWide Tryd.prog w r b0 22 c1 := by
    obtain ⟨u, hu, hc⟩ := hcell 1 c1 rfl
    obtain rfl : 22 = u := by simpa using hu
    simp only [Value.okWide, Tryd.underlying22]
    exact hc
  obtain ⟨fuel, hf⟩ := h
  obtain ⟨y0, y1, y2, y3, nn, hx, _, h0, h1, h2, h3⟩ := trod_struct4 Tryd.underlying47 hf
  have z1 : Tryd.prog.cellsOf 22 = 1 := by kernel_rfl
  have z2 : Tryd.prog.cellsOf 3 = 1 := by kernel_rfl
  simp only [z1] at h0 h1
  simp only [z2] at h2 h3
  obtain ⟨x, e1, _, _⟩ := DataW.trod_int Tryd.underlying3 h2
  obtain ⟨y, e2, _, _⟩ := DataW.trod_int Tryd.underlying3 h3
  obtain rfl : c2 = .int .i64 x := by simpa [Value.cells] using e1
  obtain rfl : c3 = .int .i64 y := by simpa [Value.cells] using e2
  obtain ⟨A0, n0, c0', rfl⟩ := okWide_slice Tryd.underlying22 k0
  obtain ⟨A1, n1, c1', rfl⟩ := okWide_slice Tryd.underlying22 k1
  obtain ⟨A, n, c, xs, ev, le, lx, wx, Rx, Dx⟩ := open_int_slice Tryd.underlying22 Tryd.underlying5 (by kernel_rfl) k0 (d := y0.1) (p := y0.2) ⟨nn, by simpa [Value.cells] using h0⟩
  obtain ⟨B, m, e, ys, ev', le', ly, wy, Ry, Dy⟩ := open_int_slice Tryd.underlying22 Tryd.underlying5 (by kernel_rfl) k1 (d := y1.1) (p := y1.2) ⟨nn, by simpa [Value.cells] using h1⟩
  refine ⟨A, n, c, xs, B, m, e, ys, x, y, y0.1, y1.1, y2.1, y3.1, by rw [ev, ev'], by injection hx, ⟨le, lx, wx, Rx, Dx⟩, ⟨le', ly, wy, Ry, Dy⟩⟩
end
end Go.Proofs.YtnlnbgjpbnjjfaaDoor
