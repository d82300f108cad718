/- Texts. -/
import Derived.Test.YtdmcioghdindfaaGreatDoorT38
import Derived.Test.YtdmcioghdindfaaGreatDoorRows
import Derived.Deep.Slices
import Derived.Deep.Strs
import Derived.Test.YtdmcioghdindfaaGreatDoorCards
import Derived.Test.YtdmcioghdindfaaGreatDoorTie
import Derived.ProofKit
import Derived.Deep.DeepHandedRow
import Derived.LaidLaws
import Derived.LaidHandle
import Derived.Stop.Joined
import Derived.Shelf.Vars
set_option linter.unusedSimpArgs false
set_option maxRecDepth 100000
set_option maxHeartbeats 4000000
namespace Go.Proofs.YtdmcioghdindfaaGreatDoor
open Go Go.RowKit Go.Aff Go.Json Go.ChangeShapes Go.WideShapes Go.Deep
section
variable {H : Type} {enc : TypeId × Value → H} {w : World} {base : Nat} {held : Bool}
theorem bulk_map (D : Nat → DataW H) : ∀ l : List Nat, Rows.uptoBulkAll (l.map D) = sumN (l.map fun i => Rows.uptoBulk (D i))
 | [] => by simp [Rows.uptoBulkAll, sumN]
 | i :: l => by simp only [List.map_cons, Rows.uptoBulkAll, sumN, bulk_map D l]
theorem sumN_suc (f : Nat → Nat) : ∀ l : List Nat, sumN (l.map fun i => f i + 1) = l.length + sumN (l.map f)
 | [] => rfl
 | i :: l => by simp only [List.map_cons, sumN, List.length_cons, sumN_suc f l]; omega
theorem sumN_map_le {f g : Nat → Nat} : ∀ {l : List Nat}, (∀ i ∈ l, f i ≤ g i) → sumN (l.map f) ≤ sumN (l.map g)
 | [], _ => Nat.le_refl _
 | i :: l, h => by
  have h1 := h i (List.mem_cons_self ..)
  have h2 := sumN_map_le (l := l) fun j hj => h j (List.mem_cons_of_mem _ hj)
  simp only [List.map_cons, sumN]; omega
instance : Inhabited ByteArray := ⟨.empty⟩
theorem open_strs {fuel : Nat} {cs : List Value} {x : DataW H × List MemPlace} (h : DataW.trod enc Tryz.prog w base (fun _ => true) held fuel 29 cs = some x) :
  ∃ (B : Option Addr) (d : Nat) (ks : List ByteArray), cs = [.slice B ks.length d] ∧ Rd w B ks.length (ks.map .string) ∧ ks.length ≤ d ∧ ks.length + byF ks ≤ Rows.uptoBulk x.1 := by
 rcases open_slice1 Tryz.underlying29 (by kernel_rfl) h with ⟨rfl, rfl⟩ | ⟨a, len, cap, m, n, V, D, Pl, rfl, _, hl, _, hm, rfl, hx⟩
 ·exact ⟨none, 0, [], rfl, Rd.nil _ _, Nat.le_refl _, Nat.zero_le _⟩
 simp only [if_true] at hm
 obtain ⟨s, hs⟩ := choose_lt (α := ByteArray) (n := len) (p := fun i s => w.cell? (a.add i) = some (.string s) ∧ Rows.uptoBulk (D i) = s.size + 1) fun i hi => by
  obtain ⟨h1, h2⟩ := hx i (by omega)
  obtain ⟨s, e1, e2, _⟩ := DataW.trod_string Tryz.underlying9 h2
  injection e1 with e1
  injection e2 with e2
  refine ⟨s, by rw [h1, e1], ?_⟩
  rw [e2, Rows.uptoBulk, Array.length_toList]
  rfl
 have hlen : ((List.range len).map s).length = len := by simp
 refine ⟨some a, cap, (List.range len).map s, by rw [hlen], ?_, by rw [hlen]; exact hl, ?_⟩
 ·rw [hlen]
  refine ⟨by simp, fun hn => ?_⟩
  obtain ⟨g, o, spot⟩ := a
  have h0 := (hs 0 hn).1
  have hsp : spot = none := by simpa [Addr.add] using World.cell?_spot h0
  subst hsp
  refine ⟨g, o, rfl, fun j hj => ?_⟩
  have h1 := (hs j hj).1
  rw [add_at] at h1
  rw [h1]
  simp [hj]
 rw [hlen, Rows.uptoBulk, bulk_map]
 have h1 : sumN ((List.range len).map fun i => (s i).size + 1) ≤ sumN ((List.range len).map fun i => Rows.uptoBulk (D i)) := sumN_map_le fun i hi => by
  rw [(hs i (List.mem_range.1 hi)).2]
  exact Nat.le_refl _
 rw [sumN_suc, List.length_range] at h1
 have h2 : byF ((List.range len).map s) = sumN ((List.range len).map fun i => (s i).size) := by unfold byF; rw [List.map_map]; rfl
 omega
theorem trod_fields6 {P : Program} {spare : Nat → Bool} {t : TypeId} {f0 f1 f2 f3 f4 f5 : Field} {fuel : Nat} {cs : List Value} {x : DataW H × List MemPlace} (ht : P.underlying t = some (.struct #[f0, f1, f2, f3, f4, f5])) (h : DataW.trod enc P w base spare held fuel t cs = some x) :
  ∃ y0 y1 y2 y3 y4 y5 n, x.1 = .agg [y0.1, y1.1, y2.1, y3.1, y4.1, y5.1] ∧ DataW.trod enc P w base spare held n f0.type ((cs.drop f0.offset).take (P.cellsOf f0.type)) = some y0 ∧
   DataW.trod enc P w base spare held n f1.type ((cs.drop f1.offset).take (P.cellsOf f1.type)) = some y1 ∧ DataW.trod enc P w base spare held n f2.type ((cs.drop f2.offset).take (P.cellsOf f2.type)) = some y2 ∧
   DataW.trod enc P w base spare held n f3.type ((cs.drop f3.offset).take (P.cellsOf f3.type)) = some y3 ∧ DataW.trod enc P w base spare held n f4.type ((cs.drop f4.offset).take (P.cellsOf f4.type)) = some y4 ∧
   DataW.trod enc P w base spare held n f5.type ((cs.drop f5.offset).take (P.cellsOf f5.type)) = some y5 := by
 obtain ⟨xs, n, _, rfl, hl, hlen, hf⟩ := DataW.trod_struct ht h
 match xs, hlen with
 | [y0, y1, y2, y3, y4, y5], _ => exact ⟨y0, y1, y2, y3, y4, y5, n, by simp, by simpa using hf 0 f0 rfl, by simpa using hf 1 f1 rfl, by simpa using hf 2 f2 rfl, by simpa using hf 3 f3 rfl, by simpa using hf 4 f4 rfl, by simpa using hf 5 f5 rfl⟩
theorem pieces6 {α : Type} (l : List α) (h : l.length = 6) : l = (l.drop 0).take 1 ++ ((l.drop 1).take 1 ++ ((l.drop 2).take 1 ++ ((l.drop 3).take 1 ++ ((l.drop 4).take 1 ++ (l.drop 5).take 1)))) := by
 match l, h with
 | [a, b, c, d, e, f], _ => rfl
theorem open_astep {fuel : Nat} {cs : List Value} {x : DataW H × List MemPlace} (hcl : cs.length = 6) (h : DataW.trod enc Tryz.prog w base (fun _ => true) held fuel 53 cs = some x) :
  ∃ (s : StepV) (B : Option Addr) (d : Nat), cs = stepV s B d ∧ Rd w B s.keys.length (s.keys.map .string) ∧ s.keys.length ≤ d ∧ bulkS s ≤ Rows.uptoBulk x.1 ∧ s.bits < 18446744073709551616 ∧ s.count ≤ 9223372036854775807 := by
 have cI : Tryz.prog.cellsOf 3 = 1 := by kernel_rfl
 have cO : Tryz.prog.cellsOf 51 = 1 := by kernel_rfl
 have cB : Tryz.prog.cellsOf 4 = 1 := by kernel_rfl
 have cU : Tryz.prog.cellsOf 27 = 1 := by kernel_rfl
 have cS : Tryz.prog.cellsOf 9 = 1 := by kernel_rfl
 have cK : Tryz.prog.cellsOf 29 = 1 := by kernel_rfl
 obtain ⟨y0, y1, y2, y3, y4, y5, n, hx, h0, h1, h2, h3, h4, h5⟩ := trod_fields6 Tryz.underlying53 h
 simp only [cO] at h0
 simp only [cB] at h1
 simp only [cU] at h2
 simp only [cS] at h3
 simp only [cI] at h4
 simp only [cK] at h5
 obtain ⟨z0, e0, _, _⟩ := DataW.trod_int Tryz.underlying51 h0
 obtain ⟨z1, e1, _⟩ := DataW.trod_bool Tryz.underlying4 h1
 obtain ⟨z2, e2, _, w2⟩ := DataW.trod_int Tryz.underlying27 h2
 obtain ⟨z3, e3, d3, _⟩ := DataW.trod_string Tryz.underlying9 h3
 obtain ⟨z4, e4, _, w4⟩ := DataW.trod_int Tryz.underlying3 h4
 obtain ⟨B, d, ks, e5, hR, hd, hb⟩ := open_strs h5
 have b2 := bounds_u64 w2
 have b4 := bounds_i64 w4
 refine ⟨⟨z0, z1, z2.toNat, z3, z4, ks⟩, B, d, ?_, hR, hd, ?_, by show z2.toNat < _; omega, b4.2⟩
 ·rw [pieces6 cs hcl]
  erw [e0, e1, e2, e3, e4, e5]
  unfold stepV
  rw [show ((z2.toNat : Nat) : Int) = z2 by omega]
  rfl
 rw [hx, d3]
 simp only [Rows.uptoBulk, Rows.uptoBulkAll, Array.length_toList]
 unfold bulkS
 show 1 + z3.size + ks.length + byF ks ≤ _
 have : z3.size = z3.data.size := rfl
 omega
instance : Inhabited StepV := ⟨⟨0, false, 0, .empty, 0, []⟩⟩
theorem open_asteps {r : Reach} {b0 : Nat} {v : Value} {d : DataW H} {p : List MemPlace} (hv : Value.okWide Tryz.prog w r b0 22 v) (h : DataW.Trod enc Tryz.prog w base (fun _ => true) held 22 v d p) (hk : Rows.uptoBulk d ≤ 1048576) :
  ∃ (A : Option Addr) (n c : Nat) (css : List (List Value)) (l : List StepV), v = .slice A n c ∧ StepsIn w A n css l ∧ Modest l := by
 obtain ⟨A, n, c, rfl⟩ := okWide_slice Tryz.underlying22 hv
 obtain ⟨fuel, hf⟩ := h
 have c6 : Tryz.prog.cellsOf 53 = 6 := by kernel_rfl
 rcases open_slice Tryz.underlying22 hf with ⟨hcs, hx⟩ | ⟨a, len, cap, m, nn, D, Pl, hcs, _, hl, hm, hmm, hx, hi⟩
 ·simp [Value.cells] at hcs
  obtain ⟨rfl, rfl, rfl⟩ := hcs
  exact ⟨none, 0, 0, [], [], rfl, ⟨⟨rfl, fun h => by omega⟩, rfl, rfl, fun i s h => by simp at h⟩, ⟨by simp [sumN], fun s h => by simp at h, fun s h => by simp at h⟩⟩
 simp [Value.cells] at hcs
 obtain ⟨rfl, rfl, rfl⟩ := hcs
 simp only [if_true] at hmm
 obtain ⟨f, hfun⟩ := choose_lt (α := StepV) (n := n) (p := fun k s => ∃ B d0, (∀ j, j < 6 → w.cell? ((a.add (k * 6)).add j) = (stepV s B d0)[j]?) ∧ Rd w B s.keys.length (s.keys.map .string) ∧ s.keys.length ≤ d0 ∧ bulkS s ≤ Rows.uptoBulk (D k) ∧ s.bits < 18446744073709551616 ∧ s.count ≤ 9223372036854775807) fun k hkn => by
  obtain ⟨cs', hc, ht⟩ := hi k (by omega)
  rw [c6] at hc
  obtain ⟨_, hcl, hat⟩ := World.cells?_some hc
  obtain ⟨s, B, d0, e, h1, h2, h3, h4, h5⟩ := open_astep hcl ht
  exact ⟨s, B, d0, fun j hj => by rw [← e]; exact hat j hj, h1, h2, h3, h4, h5⟩
 obtain ⟨BB, hBB⟩ := choose_lt (α := Option Addr × Nat) (n := n) (p := fun k q => (∀ j, j < 6 → w.cell? ((a.add (k * 6)).add j) = (stepV (f k) q.1 q.2)[j]?) ∧ Rd w q.1 (f k).keys.length ((f k).keys.map .string) ∧ (f k).keys.length ≤ q.2) fun k hkn => by
  obtain ⟨B, d0, h1, h2, h3, _⟩ := hfun k hkn
  exact ⟨(B, d0), h1, h2, h3⟩
 have hsix : ∀ cs ∈ (List.range n).map fun k => stepV (f k) (BB k).1 (BB k).2, cs.length = 6 := fun cs h => by
  obtain ⟨k, _, rfl⟩ := List.mem_map.1 h
  rfl
 refine ⟨some a, n, c, (List.range n).map fun k => stepV (f k) (BB k).1 (BB k).2, (List.range n).map f, rfl, ⟨⟨?_, fun hn => ?_⟩, by simp, by simp, fun i s hs => ?_⟩, ⟨?_, fun s hs => ?_, fun s hs => ?_⟩⟩
 ·rw [List.length_flatten]
  rw [List.map_congr_left (g := fun _ => 6) (by intro x hx; exact hsix x hx)]
  have h6 : ∀ L : List (List Value), (L.map fun _ => 6).sum = L.length * 6 := fun L => by
   induction L with
   | nil => rfl
   | cons a L ih => simp only [List.map_cons, List.sum_cons, List.length_cons, ih]; omega
  rw [h6]
  simp
 ·have h0 := (hBB 0 hn).1 0 (by decide)
  obtain ⟨g, o, spot⟩ := a
  have hsp : spot = none := by simpa [Addr.add] using World.cell?_spot h0
  subst hsp
  refine ⟨g, o, rfl, fun j hj => ?_⟩
  have hq : j / 6 < n := by omega
  have h1 := (hBB (j / 6) hq).1 (j % 6) (Nat.mod_lt _ (by decide))
  rw [add_at, add_at, show o + j / 6 * 6 + j % 6 = o + j by omega] at h1
  rw [h1]
  obtain ⟨u, hu⟩ : ∃ u, (stepV (f (j / 6)) (BB (j / 6)).1 (BB (j / 6)).2)[j % 6]? = some u := ⟨_, List.getElem?_eq_getElem (by show j % 6 < 6; omega)⟩
  have h2 := flat_get (i := j / 6) hsix (by rw [List.getElem?_map, List.getElem?_range hq]; rfl) hu
  rw [show j / 6 * 6 + j % 6 = j by omega] at h2
  rw [h2, hu]
 ·have hin : i < n := by
   have := (List.getElem?_eq_some_iff.1 hs).1
   simpa using this
  have he : f i = s := by simpa [hin] using hs
  obtain ⟨_, h2, h3⟩ := hBB i hin
  refine ⟨(BB i).1, (BB i).2, by rw [List.getElem?_map, List.getElem?_range hin, ← he]; rfl, by rw [← he]; exact h2, by rw [← he]; exact h3⟩
 ·rw [List.map_map]
  have h1 : sumN ((List.range n).map fun k => bulkS (f k)) ≤ sumN ((List.range n).map fun i => Rows.uptoBulk (D i)) := sumN_map_le fun i hi => by
   obtain ⟨_, _, _, _, _, h4, _⟩ := hfun i (List.mem_range.1 hi)
   exact h4
  have h2 := hk
  rw [show d = (d, p).1 from rfl, hx, Rows.uptoBulk, bulk_map] at h2
  exact Nat.le_trans h1 (by omega)
 ·obtain ⟨k, hk2, rfl⟩ := List.mem_map.1 hs
  obtain ⟨_, _, _, _, _, _, h5, _⟩ := hfun k (List.mem_range.1 hk2)
  exact h5
 obtain ⟨k, hk2, rfl⟩ := List.mem_map.1 hs
 obtain ⟨_, _, _, _, _, _, _, h6⟩ := hfun k (List.mem_range.1 hk2)
 exact h6
end
section
variable {H : Type} {enc : TypeId × Value → H} {w : World} {base : Nat} {held : Bool}
theorem array3 {α : Type} {a : Array α} (h : a.size = 3) : ∃ x y z, a = #[x, y, z] := by
 obtain ⟨l⟩ := a
 match l, h with
 | [x, y, z], _ => exact ⟨x, y, z, rfl⟩
theorem open_trio {r : Reach} {b0 : Nat} {v : Value} {d : DataW H} {p : List MemPlace} (hv : Value.okWide Tryz.prog w r b0 24 v) (h : DataW.Trod enc Tryz.prog w base (fun _ => true) held 24 v d p) (hk : Rows.uptoBulk d ≤ 1048576) :
  ∃ (A : Option Addr) (n c : Nat) (B : Option Addr) (m e : Nat) (C : Option Addr) (k g : Nat) (css dss ess : List (List Value)) (l1 l2 l3 : List StepV), v = .agg #[.slice A n c, .slice B m e, .slice C k g] ∧
   StepsIn w A n css l1 ∧ Modest l1 ∧ StepsIn w B m dss l2 ∧ Modest l2 ∧ StepsIn w C k ess l3 ∧ Modest l3 := by
 have hv' := hv
 simp only [Value.okWide, Tryz.underlying24] at hv'
 obtain ⟨cs, rfl, hcs, ts, hts, _, hcell⟩ := hv'
 have ht : Tryz.prog.cellTypes Tryz.prog.depth 24 = some [22, 22, 22] := by kernel_rfl
 rw [ht] at hts
 obtain rfl := (Option.some.inj hts)
 obtain ⟨c0, c1, c2, rfl⟩ := array3 (hcs.trans (by kernel_rfl))
 have k0 : Value.okWide Tryz.prog w r b0 22 c0 := by
  obtain ⟨u, hu, hc⟩ := hcell 0 c0 rfl
  obtain rfl : 22 = u := by simpa using hu
  simp only [Value.okWide, Tryz.underlying22]
  exact hc
 have k1 : Value.okWide Tryz.prog w r b0 22 c1 := by
  obtain ⟨u, hu, hc⟩ := hcell 1 c1 rfl
  obtain rfl : 22 = u := by simpa using hu
  simp only [Value.okWide, Tryz.underlying22]
  exact hc
 have k2 : Value.okWide Tryz.prog w r b0 22 c2 := by
  obtain ⟨u, hu, hc⟩ := hcell 2 c2 rfl
  obtain rfl : 22 = u := by simpa using hu
  simp only [Value.okWide, Tryz.underlying22]
  exact hc
 obtain ⟨fuel, hf⟩ := h
 obtain ⟨y0, y1, y2, nn, hx, _, h0, h1, h2⟩ := trod_struct3 Tryz.underlying24 hf
 have z1 : Tryz.prog.cellsOf 22 = 1 := by kernel_rfl
 simp only [z1] at h0 h1 h2
 obtain ⟨A0, n0, c0', rfl⟩ := okWide_slice Tryz.underlying22 k0
 obtain ⟨A1, n1, c1', rfl⟩ := okWide_slice Tryz.underlying22 k1
 obtain ⟨A2, n2, c2', rfl⟩ := okWide_slice Tryz.underlying22 k2
 have hd : d = .agg [y0.1, y1.1, y2.1] := by injection hx
 subst hd
 have hbk : Rows.uptoBulk y0.1 ≤ 1048576 ∧ Rows.uptoBulk y1.1 ≤ 1048576 ∧ Rows.uptoBulk y2.1 ≤ 1048576 := by
  simp only [Rows.uptoBulk, Rows.uptoBulkAll] at hk
  omega
 obtain ⟨A, n, c, css, l1, e1, S1, M1⟩ := open_asteps k0 (d := y0.1) (p := y0.2) ⟨nn, by simpa [Value.cells] using h0⟩ hbk.1
 obtain ⟨B, m, e, dss, l2, e2, S2, M2⟩ := open_asteps k1 (d := y1.1) (p := y1.2) ⟨nn, by simpa [Value.cells] using h1⟩ hbk.2.1
 obtain ⟨C, k, g, ess, l3, e3, S3, M3⟩ := open_asteps k2 (d := y2.1) (p := y2.2) ⟨nn, by simpa [Value.cells] using h2⟩ hbk.2.2
 exact ⟨A, n, c, B, m, e, C, k, g, css, dss, ess, l1, l2, l3, by rw [e1, e2, e3], S1, M1, S2, M2, S3, M3⟩
end
end Go.Proofs.YtdmcioghdindfaaGreatDoor
namespace Go.Proofs.YtdmcioghdindfaaGreatDoor
open Go Go.RowKit Go.Aff Go.ChangeShapes Go.WideShapes
theorem own : ownKnob Tryz.prog.godebug = none := by kernel_rfl
theorem laidOut : laidOutB Tryz.prog = true := by kernel_rfl
mutual
def datL : DataW Unit → List Value
 | .agg l => datLs l
 | .lit (.int k z) => [Value.int k z]
 | _ => [undef]
def datLs : List (DataW Unit) → List Value
 | [] => []
 | d :: l => datL d ++ datLs l
end
def fillCells (cs : Array Value) : Obj → Obj
 | .cells _ t frozen => .cells cs t frozen
 | o => o
noncomputable def laidWorld (os : Os) : World :=
 let w := World.holding Tryz.prog os ⟨#[], #[], []⟩
 { w with heap := (w.heap.modify 2 (fillCells (datL Rows.laid_unicode_utf8_first).toArray)).modify 3 (fillCells (datL Rows.laid_unicode_utf8_acceptRanges).toArray) }
end Go.Proofs.YtdmcioghdindfaaGreatDoor
namespace Go.Proofs.YtdmcioghdindfaaGreatDoor
open Go Go.RowKit Go.Aff
theorem max_of_shaped {W : World} (h : W.ShapedOpen Tryz.prog) : MaxAt W :=
 cell_of_shapedOpen_int (P := Tryz.prog) (g := 1) (t := 3) (zero := #[.int .i64 0]) h (of_decide_eq_true (by kernel_rfl)) (by kernel_rfl) rfl (by kernel_rfl) (by kernel_rfl) Tryz.underlying3
end Go.Proofs.YtdmcioghdindfaaGreatDoor
