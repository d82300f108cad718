/-
  Texts put together: AStepO; CleanP; CleanQ; PutQ; MMakW.
-/
import Derived.Test.YtdmcioghdindfaaGreatQ27
import Derived.Test.YtdmcioghdindfaaGreatQ03
import Derived.Test.YtdmcioghdindfaaGreatRows
import Derived.Deep.Slices
import Derived.Deep.Strs
import Derived.Test.YtdmcioghdindfaaGreatQ05
import Derived.Test.YtdmcioghdindfaaGreatQ10
import Derived.Test.YtdmcioghdindfaaGreatQ17
import Derived.Test.YtdmcioghdindfaaGreatQ21
import Derived.Test.YtdmcioghdindfaaGreatQ07
set_option linter.unusedSimpArgs false
namespace Go.Proofs.YtdmcioghdindfaaGreat
open Go Go.RowKit Go.Aff Go.Json Go.ChangeShapes Go.WideShapes Go.Deep
section
variable {H : Type} {enc : TypeId × Value → H} {w : World} {base : Nat} {held : Bool}
theorem bulk_map (D : Nat → DataW H) : ∀ l : List Nat, Rows.uptoBulkAll (l.map D) = sumN (l.map fun i => Rows.uptoBulk (D i))
 | [] => by simp [Rows.uptoBulkAll, sumN]
 | i :: l => by simp only [List.map_cons, Rows.uptoBulkAll, sumN, bulk_map D l]
theorem sumN_suc (f : Nat → Nat) : ∀ l : List Nat, sumN (l.map fun i => f i + 1) = l.length + sumN (l.map f)
 | [] => rfl
 | i :: l => by simp only [List.map_cons, sumN, List.length_cons, sumN_suc f l]; omega
theorem sumN_map_le {f g : Nat → Nat} : ∀ {l : List Nat}, (∀ i ∈ l, f i ≤ g i) → sumN (l.map f) ≤ sumN (l.map g)
 | [], _ => Nat.le_refl _
 | i :: l, h => by
  have h1 := h i (List.mem_cons_self ..)
  have h2 := sumN_map_le (l := l) fun j hj => h j (List.mem_cons_of_mem _ hj)
  simp only [List.map_cons, sumN]; omega
instance : Inhabited ByteArray := ⟨.empty⟩
theorem open_strs {fuel : Nat} {cs : List Value} {x : DataW H × List MemPlace} (h : DataW.trod enc Tryz.prog w base (fun _ => true) held fuel 27 cs = some x) :
  ∃ (B : Option Addr) (d : Nat) (ks : List ByteArray), cs = [.slice B ks.length d] ∧ Rd w B ks.length (ks.map .string) ∧ ks.length ≤ d ∧ ks.length + byF ks ≤ Rows.uptoBulk x.1 := by
 rcases open_slice1 Tryz.underlying27 (by kernel_rfl) h with ⟨rfl, rfl⟩ | ⟨a, len, cap, m, n, V, D, Pl, rfl, _, hl, _, hm, rfl, hx⟩
 ·exact ⟨none, 0, [], rfl, Rd.nil _ _, Nat.le_refl _, Nat.zero_le _⟩
 ·simp only [if_true] at hm
  obtain ⟨s, hs⟩ := choose_lt (α := ByteArray) (n := len) (p := fun i s => w.cell? (a.add i) = some (.string s) ∧ Rows.uptoBulk (D i) = s.size + 1) fun i hi => by
   obtain ⟨h1, h2⟩ := hx i (by omega)
   obtain ⟨s, e1, e2, _⟩ := DataW.trod_string Tryz.underlying9 h2
   injection e1 with e1
   injection e2 with e2
   refine ⟨s, by rw [h1, e1], ?_⟩
   rw [e2, Rows.uptoBulk, Array.length_toList]
   rfl
  have hlen : ((List.range len).map s).length = len := by simp
  refine ⟨some a, cap, (List.range len).map s, by rw [hlen], ?_, by rw [hlen]; exact hl, ?_⟩
  ·rw [hlen]
   refine ⟨by simp, fun hn => ?_⟩
   obtain ⟨g, o, spot⟩ := a
   have h0 := (hs 0 hn).1
   have hsp : spot = none := by simpa [Addr.add] using World.cell?_spot h0
   subst hsp
   refine ⟨g, o, rfl, fun j hj => ?_⟩
   have h1 := (hs j hj).1
   rw [add_at] at h1
   rw [h1]
   simp [hj]
  ·rw [hlen, Rows.uptoBulk, bulk_map]
   have h1 : sumN ((List.range len).map fun i => (s i).size + 1) ≤ sumN ((List.range len).map fun i => Rows.uptoBulk (D i)) := sumN_map_le fun i hi => by
    rw [(hs i (List.mem_range.1 hi)).2]
    exact Nat.le_refl _
   rw [sumN_suc, List.length_range] at h1
   have h2 : byF ((List.range len).map s) = sumN ((List.range len).map fun i => (s i).size) := by unfold byF; rw [List.map_map]; rfl
   omega
theorem trod_fields6 {P : Program} {spare : Nat → Bool} {t : TypeId} {f0 f1 f2 f3 f4 f5 : Field} {fuel : Nat} {cs : List Value} {x : DataW H × List MemPlace} (ht : P.underlying t = some (.struct #[f0, f1, f2, f3, f4, f5])) (h : DataW.trod enc P w base spare held fuel t cs = some x) :
  ∃ y0 y1 y2 y3 y4 y5 n, x.1 = .agg [y0.1, y1.1, y2.1, y3.1, y4.1, y5.1] ∧ DataW.trod enc P w base spare held n f0.type ((cs.drop f0.offset).take (P.cellsOf f0.type)) = some y0 ∧
   DataW.trod enc P w base spare held n f1.type ((cs.drop f1.offset).take (P.cellsOf f1.type)) = some y1 ∧ DataW.trod enc P w base spare held n f2.type ((cs.drop f2.offset).take (P.cellsOf f2.type)) = some y2 ∧
   DataW.trod enc P w base spare held n f3.type ((cs.drop f3.offset).take (P.cellsOf f3.type)) = some y3 ∧ DataW.trod enc P w base spare held n f4.type ((cs.drop f4.offset).take (P.cellsOf f4.type)) = some y4 ∧
   DataW.trod enc P w base spare held n f5.type ((cs.drop f5.offset).take (P.cellsOf f5.type)) = some y5 := by
 obtain ⟨xs, n, _, rfl, hl, hlen, hf⟩ := DataW.trod_struct ht h
 match xs, hlen with
 | [y0, y1, y2, y3, y4, y5], _ => exact ⟨y0, y1, y2, y3, y4, y5, n, by simp, by simpa using hf 0 f0 rfl, by simpa using hf 1 f1 rfl, by simpa using hf 2 f2 rfl, by simpa using hf 3 f3 rfl, by simpa using hf 4 f4 rfl, by simpa using hf 5 f5 rfl⟩
theorem pieces6 {α : Type} (l : List α) (h : l.length = 6) : l = (l.drop 0).take 1 ++ ((l.drop 1).take 1 ++ ((l.drop 2).take 1 ++ ((l.drop 3).take 1 ++ ((l.drop 4).take 1 ++ (l.drop 5).take 1)))) := by
 match l, h with
 | [a, b, c, d, e, f], _ => rfl
theorem open_astep {fuel : Nat} {cs : List Value} {x : DataW H × List MemPlace} (hcl : cs.length = 6) (h : DataW.trod enc Tryz.prog w base (fun _ => true) held fuel 44 cs = some x) :
  ∃ (s : StepV) (B : Option Addr) (d : Nat), cs = stepV s B d ∧ Rd w B s.keys.length (s.keys.map .string) ∧ s.keys.length ≤ d ∧ bulkS s ≤ Rows.uptoBulk x.1 ∧ s.bits < 18446744073709551616 ∧ s.count ≤ 9223372036854775807 := by
 have cI : Tryz.prog.cellsOf 3 = 1 := by kernel_rfl
 have cO : Tryz.prog.cellsOf 42 = 1 := by kernel_rfl
 have cB : Tryz.prog.cellsOf 4 = 1 := by kernel_rfl
 have cU : Tryz.prog.cellsOf 25 = 1 := by kernel_rfl
 have cS : Tryz.prog.cellsOf 9 = 1 := by kernel_rfl
 have cK : Tryz.prog.cellsOf 27 = 1 := by kernel_rfl
 obtain ⟨y0, y1, y2, y3, y4, y5, n, hx, h0, h1, h2, h3, h4, h5⟩ := trod_fields6 Tryz.underlying44 h
 simp only [cO] at h0
 simp only [cB] at h1
 simp only [cU] at h2
 simp only [cS] at h3
 simp only [cI] at h4
 simp only [cK] at h5
 obtain ⟨z0, e0, _, _⟩ := DataW.trod_int Tryz.underlying42 h0
 obtain ⟨z1, e1, _⟩ := DataW.trod_bool Tryz.underlying4 h1
 obtain ⟨z2, e2, _, w2⟩ := DataW.trod_int Tryz.underlying25 h2
 obtain ⟨z3, e3, d3, _⟩ := DataW.trod_string Tryz.underlying9 h3
 obtain ⟨z4, e4, _, w4⟩ := DataW.trod_int Tryz.underlying3 h4
 obtain ⟨B, d, ks, e5, hR, hd, hb⟩ := open_strs h5
 have b2 := bounds_u64 w2
 have b4 := bounds_i64 w4
 refine ⟨⟨z0, z1, z2.toNat, z3, z4, ks⟩, B, d, ?_, hR, hd, ?_, by show z2.toNat < _; omega, b4.2⟩
 ·rw [pieces6 cs hcl]
  erw [e0, e1, e2, e3, e4, e5]
  unfold stepV
  rw [show ((z2.toNat : Nat) : Int) = z2 by omega]
  rfl
 ·rw [hx, d3]
  simp only [Rows.uptoBulk, Rows.uptoBulkAll, Array.length_toList]
  unfold bulkS
  show 1 + z3.size + ks.length + byF ks ≤ _
  have : z3.size = z3.data.size := rfl
  omega
instance : Inhabited StepV := ⟨⟨0, false, 0, .empty, 0, []⟩⟩
set_option maxRecDepth 100000 in
theorem open_asteps {r : Reach} {b0 : Nat} {v : Value} {d : DataW H} {p : List MemPlace} (hv : Value.okWide Tryz.prog w r b0 22 v) (h : DataW.Trod enc Tryz.prog w base (fun _ => true) held 22 v d p) (hk : Rows.uptoBulk d ≤ 1048576) :
  ∃ (A : Option Addr) (n c : Nat) (css : List (List Value)) (l : List StepV), v = .slice A n c ∧ StepsIn w A n css l ∧ Modest l := by
 obtain ⟨A, n, c, rfl⟩ := okWide_slice Tryz.underlying22 hv
 obtain ⟨fuel, hf⟩ := h
 have c6 : Tryz.prog.cellsOf 44 = 6 := by kernel_rfl
 rcases open_slice Tryz.underlying22 hf with ⟨hcs, hx⟩ | ⟨a, len, cap, m, nn, D, Pl, hcs, _, hl, hm, hmm, hx, hi⟩
 ·simp [Value.cells] at hcs
  obtain ⟨rfl, rfl, rfl⟩ := hcs
  exact ⟨none, 0, 0, [], [], rfl, ⟨⟨rfl, fun h => by omega⟩, rfl, rfl, fun i s h => by simp at h⟩, ⟨by simp [sumN], fun s h => by simp at h, fun s h => by simp at h⟩⟩
 ·simp [Value.cells] at hcs
  obtain ⟨rfl, rfl, rfl⟩ := hcs
  simp only [if_true] at hmm
  obtain ⟨f, hfun⟩ := choose_lt (α := StepV) (n := n) (p := fun k s => ∃ B d0, (∀ j, j < 6 → w.cell? ((a.add (k * 6)).add j) = (stepV s B d0)[j]?) ∧ Rd w B s.keys.length (s.keys.map .string) ∧ s.keys.length ≤ d0 ∧ bulkS s ≤ Rows.uptoBulk (D k) ∧ s.bits < 18446744073709551616 ∧ s.count ≤ 9223372036854775807) fun k hkn => by
   obtain ⟨cs', hc, ht⟩ := hi k (by omega)
   rw [c6] at hc
   obtain ⟨_, hcl, hat⟩ := World.cells?_some hc
   obtain ⟨s, B, d0, e, h1, h2, h3, h4, h5⟩ := open_astep hcl ht
   exact ⟨s, B, d0, fun j hj => by rw [← e]; exact hat j hj, h1, h2, h3, h4, h5⟩
  obtain ⟨BB, hBB⟩ := choose_lt (α := Option Addr × Nat) (n := n) (p := fun k q => (∀ j, j < 6 → w.cell? ((a.add (k * 6)).add j) = (stepV (f k) q.1 q.2)[j]?) ∧ Rd w q.1 (f k).keys.length ((f k).keys.map .string) ∧ (f k).keys.length ≤ q.2) fun k hkn => by
   obtain ⟨B, d0, h1, h2, h3, _⟩ := hfun k hkn
   exact ⟨(B, d0), h1, h2, h3⟩
  have hsix : ∀ cs ∈ (List.range n).map fun k => stepV (f k) (BB k).1 (BB k).2, cs.length = 6 := fun cs h => by
   obtain ⟨k, _, rfl⟩ := List.mem_map.1 h
   rfl
  refine ⟨some a, n, c, (List.range n).map fun k => stepV (f k) (BB k).1 (BB k).2, (List.range n).map f, rfl, ⟨⟨?_, fun hn => ?_⟩, by simp, by simp, fun i s hs => ?_⟩, ⟨?_, fun s hs => ?_, fun s hs => ?_⟩⟩
  ·rw [List.length_flatten]
   rw [List.map_congr_left (g := fun _ => 6) (by intro x hx; exact hsix x hx)]
   have h6 : ∀ L : List (List Value), (L.map fun _ => 6).sum = L.length * 6 := fun L => by
    induction L with
    | nil => rfl
    | cons a L ih => simp only [List.map_cons, List.sum_cons, List.length_cons, ih]; omega
   rw [h6]
   simp
  ·have h0 := (hBB 0 hn).1 0 (by decide)
   obtain ⟨g, o, spot⟩ := a
   have hsp : spot = none := by simpa [Addr.add] using World.cell?_spot h0
   subst hsp
   refine ⟨g, o, rfl, fun j hj => ?_⟩
   have hq : j / 6 < n := by omega
   have h1 := (hBB (j / 6) hq).1 (j % 6) (Nat.mod_lt _ (by decide))
   rw [add_at, add_at, show o + j / 6 * 6 + j % 6 = o + j by omega] at h1
   rw [h1]
   obtain ⟨u, hu⟩ : ∃ u, (stepV (f (j / 6)) (BB (j / 6)).1 (BB (j / 6)).2)[j % 6]? = some u := ⟨_, List.getElem?_eq_getElem (by show j % 6 < 6; omega)⟩
   have h2 := flat_get (i := j / 6) hsix (by rw [List.getElem?_map, List.getElem?_range hq]; rfl) hu
   rw [show j / 6 * 6 + j % 6 = j by omega] at h2
   rw [h2, hu]
  ·have hin : i < n := by
    have := (List.getElem?_eq_some_iff.1 hs).1
    simpa using this
   have he : f i = s := by simpa [hin] using hs
   obtain ⟨_, h2, h3⟩ := hBB i hin
   refine ⟨(BB i).1, (BB i).2, by rw [List.getElem?_map, List.getElem?_range hin, ← he]; rfl, by rw [← he]; exact h2, by rw [← he]; exact h3⟩
  ·rw [List.map_map]
   have h1 : sumN ((List.range n).map fun k => bulkS (f k)) ≤ sumN ((List.range n).map fun i => Rows.uptoBulk (D i)) := sumN_map_le fun i hi => by
    obtain ⟨_, _, _, _, _, h4, _⟩ := hfun i (List.mem_range.1 hi)
    exact h4
   have h2 := hk
   rw [show d = (d, p).1 from rfl, hx, Rows.uptoBulk, bulk_map] at h2
   exact Nat.le_trans h1 (by omega)
  ·obtain ⟨k, hk2, rfl⟩ := List.mem_map.1 hs
   obtain ⟨_, _, _, _, _, _, h5, _⟩ := hfun k (List.mem_range.1 hk2)
   exact h5
  ·obtain ⟨k, hk2, rfl⟩ := List.mem_map.1 hs
   obtain ⟨_, _, _, _, _, _, _, h6⟩ := hfun k (List.mem_range.1 hk2)
   exact h6
end
end Go.Proofs.YtdmcioghdindfaaGreat

namespace Go.Json
def JV.clean : JV → JV
 | .obj ks l => .obj (((ks.zip (l.map fun x => x.clean)).filter fun p => p.2.sort != 1).map (·.1)) (((ks.zip (l.map fun x => x.clean)).filter fun p => p.2.sort != 1).map (·.2))
 | j => j
def kept (ks : List ByteArray) (l : List JV) (i : Nat) : List (ByteArray × JV) := ((ks.zip (l.map fun x => x.clean)).take i).filter fun p => p.2.sort != 1
theorem clean_obj_eq (ks : List ByteArray) (l : List JV) (n : Nat) (h : l.length ≤ n) : (JV.obj ks l).clean = .obj ((kept ks l n).map (·.1)) ((kept ks l n).map (·.2)) := by
 rw [JV.clean, kept, List.take_of_length_le (by rw [List.length_zip, List.length_map]; omega)]
theorem clean_sort (j : JV) : j.clean.sort = j.sort := by cases j <;> simp [JV.clean, JV.sort]
theorem clean_whole (j : JV) (h : j.sort ≠ 6) : j.clean = j := by cases j <;> first | exact absurd rfl h | simp [JV.clean]
theorem kept_snoc {ks : List ByteArray} {l : List JV} {i : Nat} {k : ByteArray} {x : JV} (h1 : ks[i]? = some k) (h2 : l[i]? = some x) : kept ks l (i + 1) = kept ks l i ++ (if x.sort = 1 then [] else [(k, x.clean)]) := by
 have : (ks.zip (l.map fun x => x.clean))[i]? = some (k, x.clean) := List.getElem?_zip_eq_some.2 ⟨h1, by rw [List.getElem?_map, h2]; rfl⟩
 unfold kept
 rw [List.take_add_one, this, Option.toList_some, List.filter_append]
 by_cases h : x.sort = 1 <;> simp [h, clean_sort]
theorem kept_len (ks : List ByteArray) (l : List JV) (i : Nat) : (kept ks l i).length ≤ i := by
 unfold kept
 refine Nat.le_trans (List.length_filter_le _ _) ?_
 rw [List.length_take]; omega
end Go.Json

set_option linter.unusedSimpArgs false
namespace Go.Json
theorem sumN_sub {a b : List Nat} (h : a.Sublist b) : sumN a ≤ sumN b := by
 induction h with
 | slnil => exact Nat.le_refl _
 | cons x _ ih => simp only [sumN]; omega
 | cons_cons x _ ih => simp only [sumN]; omega
theorem maxN_sub {a b : List Nat} (h : a.Sublist b) : maxN a ≤ maxN b := by
 induction h with
 | slnil => exact Nat.le_refl _
 | cons x _ ih => simp only [maxN]; omega
 | cons_cons x _ ih => simp only [maxN]; omega
theorem sumN_mono {α : Type} {f g : α → Nat} {l : List α} (h : ∀ x ∈ l, f x ≤ g x) : sumN (l.map f) ≤ sumN (l.map g) := by
 induction l with
 | nil => exact Nat.le_refl _
 | cons x l ih =>
  have h1 := h x (List.mem_cons_self ..)
  have h2 := ih fun y hy => h y (List.mem_cons_of_mem _ hy)
  simp only [List.map_cons, sumN]; omega
theorem maxN_mono {α : Type} {f g : α → Nat} {l : List α} (h : ∀ x ∈ l, f x ≤ g x) : maxN (l.map f) ≤ maxN (l.map g) := by
 induction l with
 | nil => exact Nat.le_refl _
 | cons x l ih =>
  have h1 := h x (List.mem_cons_self ..)
  have h2 := ih fun y hy => h y (List.mem_cons_of_mem _ hy)
  simp only [List.map_cons, maxN]; omega
theorem zip_fst_sub {α β : Type} : ∀ (a : List α) (b : List β), ((a.zip b).map (·.1)).Sublist a
 | [], _ => List.Sublist.refl _
 | _ :: _, [] => List.nil_sublist _
 | x :: a, _ :: b => (zip_fst_sub a b).cons_cons x
theorem zip_snd_sub {α β : Type} : ∀ (a : List α) (b : List β), ((a.zip b).map (·.2)).Sublist b
 | [], _ => List.nil_sublist _
 | _ :: _, [] => List.nil_sublist _
 | _ :: a, y :: b => (zip_snd_sub a b).cons_cons y
theorem kept_keys (ks : List ByteArray) (l : List JV) (n : Nat) : ((kept ks l n).map (·.1)).Sublist ks := by
 unfold kept
 exact (((List.filter_sublist).trans (List.take_sublist _ _)).map _).trans (zip_fst_sub _ _)
theorem kept_items (ks : List ByteArray) (l : List JV) (n : Nat) : ((kept ks l n).map (·.2)).Sublist (l.map fun x => x.clean) := by
 unfold kept
 exact (((List.filter_sublist).trans (List.take_sublist _ _)).map _).trans (zip_snd_sub _ _)
theorem clean_le : ∀ (j : JV), j.clean.nodes ≤ j.nodes ∧ j.clean.bytes ≤ j.bytes ∧ j.clean.deep ≤ j.deep := by
 have key : ∀ j : JV, (∀ x, x ∈ j.items → x.clean.nodes ≤ x.nodes ∧ x.clean.bytes ≤ x.bytes ∧ x.clean.deep ≤ x.deep) → j.clean.nodes ≤ j.nodes ∧ j.clean.bytes ≤ j.bytes ∧ j.clean.deep ≤ j.deep := by
  intro j ih
  by_cases hs : j.sort = 6
  ·match j, hs, ih with
   | .obj ks l, _, ih =>
    have ih' : ∀ x ∈ l, x.clean.nodes ≤ x.nodes ∧ x.clean.bytes ≤ x.bytes ∧ x.clean.deep ≤ x.deep := ih
    rw [clean_obj_eq ks l l.length (Nat.le_refl _)]
    have hi := kept_items ks l l.length
    have hk := kept_keys ks l l.length
    have h1 := sumN_sub (hi.map fun x => x.nodes)
    have h2 := sumN_sub (hi.map fun x => x.bytes)
    have h3 := maxN_sub (hi.map fun x => x.deep)
    have h4 := sumN_sub (hk.map fun x => x.size)
    have g1 := sumN_mono (l := l) (f := fun x => x.clean.nodes) (g := fun x => x.nodes) fun x hx => (ih' x hx).1
    have g2 := sumN_mono (l := l) (f := fun x => x.clean.bytes) (g := fun x => x.bytes) fun x hx => (ih' x hx).2.1
    have g3 := maxN_mono (l := l) (f := fun x => x.clean.deep) (g := fun x => x.deep) fun x hx => (ih' x hx).2.2
    simp only [List.map_map, Function.comp_def] at h1 h2 h3 h4
    simp only [JV.nodes, JV.bytes, JV.deep, List.map_map, Function.comp_def]
    exact ⟨by omega, by omega, by omega⟩
  ·rw [clean_whole j hs]
   exact ⟨Nat.le_refl _, Nat.le_refl _, Nat.le_refl _⟩
 exact JV.ind (key .null fun x hx => by cases hx) (fun b => key (.flag b) fun x hx => by cases hx) (fun b => key (.num b) fun x hx => by cases hx) (fun s => key (.text s) fun x hx => by cases hx) (fun l ih => key (.list l) ih) (fun ks l ih => key (.obj ks l) ih)
theorem clean_within {j : JV} (h : j.within) : j.clean.within := by
 obtain ⟨h1, h2, h3⟩ := clean_le j
 exact ⟨Nat.le_trans h1 h.1, Nat.le_trans h2 h.2.1, Nat.le_trans h3 h.2.2⟩
theorem clean_ok : ∀ {j : JV}, JOk j → JOk j.clean := by
 intro j h
 induction h with
 | mk j h1 h2 hp hr ht h ih =>
  by_cases hs : j.sort = 6
  ·match j, hs, h2, hp, hr, ht, ih with
   | .obj ks l, _, h2, hp, hr, ht, ih =>
    rw [clean_obj_eq ks l l.length (Nat.le_refl _)]
    have hk := kept_keys ks l l.length
    have hi := kept_items ks l l.length
    refine JOk.mk _ (by show ((kept ks l l.length).map (·.1)).length ≤ ((kept ks l l.length).map (·.2)).length; simp) (fun _ => by show ((kept ks l l.length).map (·.1)).length = ((kept ks l l.length).map (·.2)).length; simp) (hp.sublist hk) (fun k hk2 => hr k (hk.subset hk2)) ht fun x hx => ?_
    obtain ⟨y, hy, e⟩ := List.mem_map.1 (hi.subset hx)
    rw [← e]
    exact ih y hy
  ·rw [clean_whole j hs]
   exact JOk.mk j h1 h2 hp hr ht h
theorem item_within {j x : JV} (h : x ∈ j.items) (hw : j.within) : x.within := by
 have h1 := sumN_mem (List.mem_map.2 ⟨x, h, rfl⟩ : x.nodes ∈ j.items.map fun x => x.nodes)
 have h2 := sumN_mem (List.mem_map.2 ⟨x, h, rfl⟩ : x.bytes ∈ j.items.map fun x => x.bytes)
 have h3 := maxN_mem (List.mem_map.2 ⟨x, h, rfl⟩ : x.deep ∈ j.items.map fun x => x.deep)
 unfold JV.within at hw ⊢
 rw [JV.nodes_eq j, JV.bytes_eq j, JV.deep_eq j] at hw
 omega
theorem mkObj_self {ks : List ByteArray} {l : List JV} (h : JOk (.obj ks l)) : mkObj ks l = .obj ks l := by
 have hf := h.form
 have hl : ks.length = l.length := hf.2.1 rfl
 have hz1 : (ks.zip l).map (·.1) = ks := by rw [List.map_fst_zip (by omega)]
 have hz2 : (ks.zip l).map (·.2) = l := by rw [List.map_snd_zip (by omega)]
 have hp : ((ks.zip l).map (·.1)).Pairwise ltS := by rw [hz1]; exact hf.2.2.1
 unfold mkObj
 rw [sortM_of_rising (List.pairwise_map.1 hp), hz1, hz2]
end Go.Json

set_option linter.unusedSimpArgs false
namespace Go.Json
def objS (ks : List ByteArray) : StepV := ⟨6, false, 0, .empty, 0, ks⟩
theorem objS_used (ks : List ByteArray) : usedF (objS ks) = true := by simp [usedF, objS]
theorem rising_nodup {ks : List ByteArray} (h : ks.Pairwise ltS) : ks.Nodup := h.imp fun {a b} h1 (e : a = b) => by rw [e] at h1; exact ltS_irrefl b h1
theorem right_none : rightS ByteArray.empty = true := by decide
theorem doF_members {P l : List JV} {ks : List ByteArray} (hj : JOk (.obj ks l)) : doF (P ++ l) (objS ks) = if (JV.obj ks l).within then .inr (P ++ [.obj ks l]) else .inl 3 := by
 have hf := hj.form
 have hl : ks.length = l.length := hf.2.1 rfl
 have hr : ks.all rightS = true := List.all_eq_true.2 hf.2.2.2.1
 have hd : (P ++ l).drop ((P ++ l).length - ks.length) = l := by
  rw [List.length_append, hl, Nat.add_sub_cancel, List.drop_left]
 have ht : (P ++ l).take ((P ++ l).length - ks.length) = P := by
  rw [List.length_append, hl, Nat.add_sub_cancel, List.take_left]
 have hm : mkV (objS ks) l = .obj ks l := by
  rw [show mkV (objS ks) l = mkObj ks l from rfl, mkObj_self hj]
 unfold doF
 rw [if_neg (by rw [objS_used]; simp), if_neg (by show ¬ ((6 : Int) = 3 ∧ _); simp), if_neg (by show ¬ (rightS ByteArray.empty = false ∨ ks.all rightS = false); rw [hr, right_none]; simp), if_neg (by show ¬ ¬ ks.Nodup; exact fun h => h (rising_nodup hf.2.2.1)),
  if_neg (by show ¬ (P ++ l).length < 0 + ks.length; rw [List.length_append]; omega)]
 have hz : (objS ks).count.toNat + (objS ks).keys.length = ks.length := by show 0 + ks.length = _; omega
 rw [hz, hd, ht, hm]
 by_cases hw : (JV.obj ks l).within
 ·rw [if_pos hw, if_neg (by exact fun h => h hw)]
 ·rw [if_neg hw, if_pos hw]
end Go.Json

set_option linter.unusedSimpArgs false
namespace Go.Proofs.YtdmcioghdindfaaGreat
open Go Go.RowKit Go.Aff Go.Json
attribute [local go_sem] Oper.semAt_some
theorem infoItem : (Tryz.prog.info? 58).map (fun i => (i.zero, i.size, i.bytes)) = some (some .nilIface, 1, 16) := by kernel_rfl
theorem row_push {T : TypeId} {D : Nat → Prop} {w : World} {p : Nat} {A : Option Addr} {c : Nat} {vs : List Value} {P : List JV} (h : RowAt T D w p A c vs P) {v : Value} {j : JV} (hj : JAt (Bq D p (.slice A P.length c)) w v j) {n : Nat} (hnn : n = P.length)
  {W : World} {A' : Option Addr} {c' : Nat} {W' : World} (hW : Keeps (fun _ => False) w W) (ho : W'.ownsRow 0 58 1 (.slice A' (n + 1) c') (n + 1) (vs ++ [v])) (hg : W.grownBy W' (Value.slice A n c).ownBlock)
  (hb : (Value.slice A' (n + 1) c').ownBlock = (Value.slice A n c).ownBlock ∨ (Value.slice A' (n + 1) c').ownBlock = some W.heap.size) :
   Blk W' p T [.slice A n c] ∧ RowPost T D w p (.slice A n c) (P ++ [j]) (W'.setCell ⟨p, 0, none⟩ (.slice A' (n + 1) c')) := by
 have hk : Keeps (fun i => (Value.slice A P.length c).ownBlock = some i) w W' := (hW.mono (fun _ _ h => h.elim)).grown hg (fun g e => .inl (by rw [← hnn]; exact e))
 have hbl := hk.blk h.blk h.ne_own
 rw [← hnn] at hbl
 refine ⟨hbl, ?_⟩
 have hle : (P ++ [j]).length = n + 1 := by rw [List.length_append, hnn]; rfl
 have hs := h.stored (P' := P ++ [j]) (A' := A') (c' := c') (vs' := vs ++ [v]) hk (by rw [hle]; exact ho) (by
  rw [hle, ← hnn]
  rcases hb with e | e
  ·exact .inl e
  ·exact .inr ⟨_, e, hW.size⟩) (fun i u x hv hj' => by
  rw [List.getElem?_append] at hv hj'
  by_cases hi : i < P.length
  ·rw [if_pos (by rw [h.len]; exact hi)] at hv
   rw [if_pos hi] at hj'
   exact h.at_ i u x hv hj'
  ·rw [if_neg (by rw [h.len]; exact hi)] at hv
   rw [if_neg hi] at hj'
   have hz : i - P.length = 0 := by
    rcases Nat.eq_zero_or_pos (i - P.length) with e | e
    ·exact e
    ·rw [List.getElem?_eq_none (by simp; omega)] at hj'; cases hj'
   rw [h.len, hz] at hv
   rw [hz] at hj'
   injection hv with hv
   injection hj' with hj'
   subst hv hj'
   exact hj)
 rw [hle] at hs
 refine ⟨⟨A', c', _, hs.1⟩, ?_⟩
 have h2 := hs.2
 rw [← hnn] at h2
 exact h2
theorem new_any (w : World) : Calls Tryz.prog 29 #[] w fun e w' => e = .returned (.pointer (some ⟨w.heap.size, 0, none⟩)) ∧ w' = w.alloc (.cells #[.slice none 0 0] 134) := by
 go_enter Tryz.func29, Tryz.ntmps29
 go_wp2
 go_ret
 exact ⟨rfl, rfl⟩
theorem RowAt.start {D : Nat → Prop} (w : World) (hD : ∀ i, w.heap.size ≤ i → D i) : RowAt 134 D (w.alloc (.cells #[.slice none 0 0] 134)) w.heap.size none 0 [] [] :=
 ⟨Blk.new _ _ _, World.ownsRow_nil _ _ _ _, fun i v j h => by simp at h, by decide, fun i hi => hD i (by rw [World.size_alloc] at hi; omega), fun g h => by cases h⟩
def CopyPost (D : Nat → Prop) (w : World) (p : Nat) (v : Value) (P : List JV) (j : JV) (e : Ending) (w' : World) : Prop := if P.length < 65536 then e = .returned .nilIface ∧ RowPost 134 D w p v (P ++ [j]) w' else e = .returned (errE 3) ∧ Keeps (fun _ => False) w w'
set_option maxHeartbeats 4000000 in
set_option maxRecDepth 100000 in
theorem copy_any (D : Nat → Prop) (w : World) (p : Nat) (A : Option Addr) (c : Nat) (vs : List Value) (P : List JV) (h : RowAt 134 D w p A c vs P) (hn : P.length ≤ 1048576) (v : Value) (j : JV) (hj : JAt (Bq D p (.slice A P.length c)) w v j) :
  Calls Tryz.prog 142 #[.pointer (some ⟨p, 0, none⟩), .agg #[v]] w (CopyPost D w p (.slice A P.length c) P j) := by
 obtain ⟨T, y, hv⟩ := hj.iface
 subst hv
 obtain ⟨n, hnn⟩ : ∃ n, n = P.length := ⟨_, rfl⟩
 unfold CopyPost
 rw [← hnn] at hn ⊢
 have hlt0 := h.blk.lt
 have h1 : ∀ V, Keeps (fun _ => False) w V → V.cell? ⟨p, 0, none⟩ = some (.slice A n c) := fun V hV => by
  have := (hV.blk h.blk (fun h => h)).cell 0
  rw [← hnn] at this
  exact this
 have c0 := h1 _ ((Keeps.refl _ w).alloc (.cells #[.iface T y] 60))
 have cb := (Blk.new w 60 [.iface T y]).cell 0
 by_cases hlt : n < 65536
 ·simp only [if_pos hlt]
  have hge : decide ((65536 : Int) ≤ (n : Int)) = false := decide_eq_false (by omega)
  have HLT := Lib.hid (And.intro hlt hn)
  have HH := Lib.hid (And.intro h hj)
  have HN := Lib.hid hnn
  have HOW : Hid (∀ V, Keeps (fun _ => False) w V → V.ownsRow 0 58 1 (.slice A n c) n vs) := Lib.hid fun V hV => by
   have := (h.stay hV).own
   rwa [← hnn] at this
  have HC1 := Lib.hid h1
  clear h hj hnn h1 hlt hn
  go_enter Tryz.func142, Tryz.ntmps142
  go_upto_region 7 with fail
  obtain ⟨b, hb⟩ : ∃ b, b = w.heap.size := ⟨_, rfl⟩
  have HB0 : Hid (Keeps (fun _ => False) w (w.alloc (.cells #[.iface T y] 60)) ∧ Blk (w.alloc (.cells #[.iface T y] 60)) w.heap.size 60 [.iface T y]) := Lib.hid ⟨(Keeps.refl _ _).alloc _, Blk.new _ _ _⟩
  rw [← hb] at HB0 ⊢
  refine gen_codeF (fun W => Keeps (fun _ => False) w W ∧ Blk W b 60 [.iface T y]) HB0.out ?_
  rintro w1 ⟨k1, b1⟩
  have HSR : Hid (∀ V, Keeps (fun i => (Value.slice A n c).ownBlock = some i) w1 V → V.cell? ⟨p, 0, none⟩ = some (.slice A n c) ∧ V.cell? ⟨b, 0, none⟩ = some (.iface T y)) := Lib.hid fun V hV => by
   have h3 := hV.blk (k1.blk HH.out.1.blk (fun h => h)) (by rw [HN.out]; exact HH.out.1.ne_own)
   have h4 := hV.blk b1 (fun e => by
    have := (HH.out.1.own.lt b (by rw [← HN.out]; exact e)).2
    omega)
   rw [← HN.out] at h3
   exact ⟨h3.cell 0, h4.cell 0⟩
  have HK1 := Lib.hid k1
  clear k1 b1 HB0 hb c0 cb
  refine wp_region_tail (S := (fun V => Keeps (fun i => (Value.slice A n c).ownBlock = some i) w1 V)) 10 (by kernel_rfl) (Keeps.refl _ _).drew (fun hHeld => ?_)
  refine tP (i := 0) (oi := ⟨some 23, _, _, _, _, _⟩) (v := ?_) rfl (Or.inl ⟨by rfl, ?_⟩) ?_
  rotate_left
  ·intro w' hSw
   go_simp
   first | done | rfl
  try simp only [pu]
  refine tP (i := 1) (oi := ⟨some 24, _, _, _, _, _⟩) (v := ?_) rfl (Or.inl ⟨by rfl, ?_⟩) ?_
  rotate_left
  ·intro w' hSw
   go_simp
   first | done | rfl
  try simp only [pu]
  refine tP (i := 2) (oi := ⟨some 25, _, _, _, _, _⟩) (v := ?_) rfl (Or.inl ⟨by rfl, ?_⟩) ?_
  rotate_left
  ·intro w' hSw
   go_simp
   first | done | rfl
  try simp only [pu]
  refine tP (i := 3) (oi := ⟨some 26, _, _, _, _, _⟩) (v := ?_) rfl (Or.inl ⟨by rfl, ?_⟩) ?_
  rotate_left
  ·intro w' hSw
   go_simp
   first | done | rfl
  try simp only [pu]
  refine tP (i := 4) (oi := ⟨some 27, _, _, _, _, _⟩) (v := ?_) rfl (Or.inl ⟨by rfl, ?_⟩) ?_
  rotate_left
  ·intro w' hSw
   go_simp
   first | done | rfl
  try simp only [pu]
  refine tT [5] (i := 5) (oi := ⟨some 28, _, _, _, _, _⟩) (v := ?_) rfl (Or.inl ⟨by rfl, ?_⟩) hHeld ?_
  rotate_left
  ·intro w' hSw
   have cv := (HSR.out _ hSw).1
   go_simp
   first | done | rfl
  try simp only [pu]
  refine tP (i := 6) (oi := ⟨some 29, _, _, _, _, _⟩) (v := ?_) rfl (Or.inl ⟨by rfl, ?_⟩) ?_
  rotate_left
  ·intro w' hSw
   go_simp
   first | done | rfl
  try simp only [pu]
  refine tT [7] (i := 7) (oi := ⟨some 30, _, _, _, _, _⟩) (v := ?_) rfl (Or.inl ⟨by rfl, ?_⟩) hHeld ?_
  rotate_left
  ·intro w' hSw
   have cv := (HSR.out _ hSw).2
   go_simp
   first | done | rfl
  try simp only [pu]
  refine wpAnyT_step (i := 8) (o := ⟨some 31, _, _, _, _, _⟩) (by kernel_rfl) rfl (fun K hK => ?_)
  go_simp
  refine hK.out _ _ (hHeld.alloc _) (fun hHeld => ?_)
  clear hK K
  try simp only [pu]
  refine wpAnyT_step (i := 9) (o := ⟨some 32, _, _, _, _, _⟩) (by kernel_rfl) rfl (fun K hK => ?_)
  refine step_append_own rfl (.tmp 28) (.tmp 31) 72 rfl 58 .nilIface 1 16 Tryz.underlying72 infoItem rfl (by decide) A n c _ rfl (HOW.out _ ((HK1.out.drew).alloc _)) ⟨w1.drew.heap.size, 0, none⟩ 1 1 [.iface T y] rfl rfl (cell_one_new _ _ _) (by intro u hu; rw [List.mem_singleton.1 hu]; rfl) (by have := HLT.out; simp only [maxLen]; omega) (by have := HLT.out; omega) ?_
  intro A5 c5 w5 ho5 hg5 hb5
  have HP5 := Lib.hid (row_push HH.out.1 HH.out.2 HN.out ((HK1.out.drew).alloc _) ho5 hg5 hb5)
  have hS5 := hHeld.grown hg5 (fun g e => .inl e)
  refine hK.out _ _ hS5 (fun hHeld => ?_)
  clear hK K
  try simp only [pu]
  refine wpAnyT_tail (i := 10) (o := ⟨some 33, _, _, _, _, _⟩) (by kernel_rfl) (by kernel_rfl) rfl (fun K hK => ?_)
  go_simp
  refine hK.out _ _ ?_
  clear hK K
  try simp only [pu]
  refine wpAnyT_tail (i := 11) (o := ⟨some 34, _, _, _, _, _⟩) (by kernel_rfl) (by kernel_rfl) rfl (fun K hK => ?_)
  go_simp
  refine hK.out _ _ ?_
  clear hK K
  try simp only [pu]
  refine wpAnyT_tail (i := 12) (o := ⟨some 35, _, _, _, _, _⟩) (by kernel_rfl) (by kernel_rfl) rfl (fun K hK => ?_)
  go_simp
  refine hK.out _ _ ?_
  clear hK K
  try simp only [pu]
  refine wpAnyT_tail (i := 13) (o := ⟨none, _, _, _, _, _⟩) (by kernel_rfl) (by kernel_rfl) rfl (fun K hK => ?_)
  have cv := HP5.out.1.cell 0
  have fz := HP5.out.1.frozen 0
  go_simp
  refine hK.out _ _ ?_
  clear hK K
  try simp only [pu]
  refine wpAnyT_done (by kernel_rfl) ?_
  go_wp2
  go_ret
  exact ⟨rfl, HP5.out.2⟩
 ·simp only [if_neg hlt]
  have hge : decide ((65536 : Int) ≤ (n : Int)) = true := decide_eq_true (by omega)
  clear h hj hnn h1 hlt hn hlt0
  go_enter Tryz.func142, Tryz.ntmps142
  go_wp2
  go_ret
  exact ⟨rfl, (Keeps.refl _ w).alloc _⟩
theorem DoPost.from_ {T : TypeId} {D : Nat → Prop} {w W w' : World} {p : Nat} {v : Value} {P : List JV} {s : StepV} {e : Ending} (h : DoPost T D W p v P s e w') (k : Keeps (fun _ => False) w W) : DoPost T D w p v P s e w' := by
 revert h
 unfold DoPost
 cases doF P s with
 | inl q => exact fun h => ⟨h.1, k.trans h.2 fun _ _ h => h⟩
 | inr q => exact fun h => ⟨h.1, h.2.1, (k.mono fun _ _ h => h.elim).trans h.2.2 fun _ _ h => h⟩
theorem blk_rng {w : World} {p : Nat} {T : TypeId} {cs : List Value} (h : Blk w p T cs) : w.rangeAt p 0 cs := fun j v hv => by
 rw [Nat.zero_add, h.cell j]; exact hv
theorem DoPost.ret {T : TypeId} {D : Nat → Prop} {w w' : World} {p : Nat} {v : Value} {P : List JV} {s : StepV} {e : Ending} (h : DoPost T D w p v P s e w') : ∃ x, e = .returned x ∧ DoPost T D w p v P s (.returned x) w' := by
 have h2 := h
 unfold DoPost at h2
 revert h2
 cases doF P s with
 | inl q => exact fun h3 => ⟨_, h3.1, h3.1 ▸ h⟩
 | inr q => exact fun h3 => ⟨_, h3.1, h3.1 ▸ h⟩
set_option maxHeartbeats 4000000 in
set_option maxRecDepth 100000 in
theorem step_object (D : Nat → Prop) (w : World) (p : Nat) (A : Option Addr) (c : Nat) (vs : List Value) (P : List JV) (h : RowAt 134 D w p A c vs P) (hn : P.length ≤ 1048576) (hP : ∀ j ∈ P, j.within) (ks : List ByteArray) (hk1 : byF ks ≤ 1099511627776) (hk2 : ks.length ≤ 1099511627776)
  (B : Option Addr) (d : Nat) (hk : Rd w B ks.length (ks.map .string)) :
  Calls Tryz.prog 140 #[.pointer (some ⟨p, 0, none⟩), .agg #[.int .i64 6, .bool false, .int .u64 0, .string .empty, .int .i64 0, .slice B ks.length d]] w (DoPost 134 D w p (.slice A P.length c) P (objS ks)) := by
 obtain ⟨m, hm⟩ : ∃ m, m = ks.length := ⟨_, rfl⟩
 have HDO : Hid (∀ W, Keeps (fun _ => False) w W → Calls Tryz.prog 28 #[.pointer (some ⟨p, 0, none⟩), .agg #[.int .i64 6, .bool false, .int .u64 0, .string .empty, .int .i64 0, .slice B m d]] W fun e w' => ∃ x, e = .returned x ∧ DoPost 134 D w p (.slice A P.length c) P (objS ks) (.returned x) w') := Lib.hid fun W hW => by
  rw [hm]
  exact (do_any (objS ks) ⟨by show ByteArray.empty.size ≤ _; decide, hk1, hk2, by show 0 < 18446744073709551616; decide⟩ _ D W p A c vs P (h.stay hW) hn hP B d (hk.keep hW (fun _ _ _ h => h))).mono fun e w' h => (h.from_ hW).ret
 rw [← hm]
 obtain ⟨Q, hQ⟩ : ∃ Q, Q = DoPost 134 D w p (.slice A P.length c) P (objS ks) := ⟨_, rfl⟩
 rw [← hQ] at HDO ⊢
 clear h hn hP hk1 hk2 hk hm hQ
 have HB0 : Hid (Keeps (fun _ => False) w (w.alloc (.cells #[.int .i64 6, .bool false, .int .u64 0, .string .empty, .int .i64 0, .slice B m d] 44)) ∧ Blk (w.alloc (.cells #[.int .i64 6, .bool false, .int .u64 0, .string .empty, .int .i64 0, .slice B m d] 44)) w.heap.size 44 [.int .i64 6, .bool false, .int .u64 0, .string .empty, .int .i64 0, .slice B m d]) := Lib.hid ⟨(Keeps.refl _ _).alloc _, Blk.new _ _ _⟩
 have c0 := HB0.out.2.cell 0
 go_enter Tryz.func140, Tryz.ntmps140
 go_upto_region 5 with fail
 obtain ⟨b, hb⟩ : ∃ b, b = w.heap.size := ⟨_, rfl⟩
 rw [← hb] at HB0 ⊢
 refine gen_codeF (fun W => Keeps (fun _ => False) w W ∧ Blk W b 44 [.int .i64 6, .bool false, .int .u64 0, .string .empty, .int .i64 0, .slice B m d]) HB0.out ?_
 rintro w1 ⟨k1, b1⟩
 have HK1 := Lib.hid (And.intro k1 b1)
 clear k1 b1 HB0 hb c0
 refine wp_region_tail (S := Keeps (fun _ => False) w1) 4 (by kernel_rfl) (Keeps.refl _ _).drew (fun hHeld => ?_)
 refine tP (i := 0) (oi := ⟨some 21, _, _, _, _, _⟩) (v := ?_) rfl (Or.inl ⟨by rfl, ?_⟩) ?_
 rotate_left
 ·intro w' hSw
  go_simp
  first | done | rfl
 try simp only [pu]
 refine tP (i := 1) (oi := ⟨some 22, _, _, _, _, _⟩) (v := ?_) rfl (Or.inl ⟨by rfl, ?_⟩) ?_
 rotate_left
 ·intro w' hSw
  go_simp
  first | done | rfl
 try simp only [pu]
 refine tP (i := 2) (oi := ⟨some 23, _, _, _, _, _⟩) (v := ?_) rfl (Or.inl ⟨by rfl, ?_⟩) ?_
 rotate_left
 ·intro w' hSw
  go_simp
  first | done | rfl
 try simp only [pu]
 refine tT [3] (i := 3) (oi := ⟨some 24, _, _, _, _, _⟩) (v := _) rfl (yieldsIf_load_mid (by rfl) _ _ rfl _ _ rfl [.int .i64 6, .bool false, .int .u64 0, .string .empty, .int .i64 0, .slice B m d] _ (fun w' h => blk_rng (h.blk HK1.out.2 (fun h => h))) Tryz.underlying44 rfl (by kernel_rfl)) hHeld ?_
 try simp only [pu]
 refine wpAnyT_tail (i := 4) (o := ⟨some 25, _, _, _, _, _⟩) (by kernel_rfl) (by kernel_rfl) rfl (fun K hK => ?_)
 go_simp
 refine (HDO.out _ (HK1.out.1.trans hHeld fun _ _ h => h)).mono ?_
 rintro e w2 ⟨x, rfl, hq⟩
 refine hK.out _ _ ?_
 clear hK K
 try simp only [pu]
 refine wpAnyT_tail (i := 5) (o := ⟨some 4, _, _, _, _, _⟩) (by kernel_rfl) (by kernel_rfl) rfl (fun K hK => ?_)
 go_simp
 refine hK.out _ _ ?_
 clear hK K
 try simp only [pu]
 refine wpAnyT_done (by kernel_rfl) ?_
 go_wp2
 exact hq
set_option maxHeartbeats 4000000 in
set_option maxRecDepth 100000 in
theorem object_put (D : Nat → Prop) (w : World) (p : Nat) (A : Option Addr) (c : Nat) (vs : List Value) (P : List JV) (h : RowAt 134 D w p A c vs P) (hn : P.length ≤ 1048576) (hP : ∀ j ∈ P, j.within) (ks : List ByteArray) (hk1 : byF ks ≤ 1099511627776) (hk2 : ks.length ≤ 1099511627776)
  (B : Option Addr) (d : Nat) (hk : Rd w B ks.length (ks.map .string)) :
  Calls Tryz.prog 139 #[.pointer (some ⟨p, 0, none⟩), .slice B ks.length d] w (DoPost 134 D w p (.slice A P.length c) P (objS ks)) := by
 have HST := Lib.hid ((step_object D w p A c vs P h hn hP ks hk1 hk2 B d hk).mono fun e w' h => h.ret)
 obtain ⟨m, hm⟩ : ∃ m, m = ks.length := ⟨_, rfl⟩
 rw [← hm] at HST ⊢
 clear h hn hP hk1 hk2 hk hm
 go_enter Tryz.func139, Tryz.ntmps139
 go_wp2_with (go_at_call 140; refine HST.out.mono ?_; rintro e w2 ⟨x, rfl, hq⟩)
 go_ret
 exact hq
set_option maxHeartbeats 4000000 in
set_option maxRecDepth 100000 in
theorem tree_one (D : Nat → Prop) (w : World) (p : Nat) (A : Option Addr) (c : Nat) (vs : List Value) (j : JV) (h : RowAt 134 D w p A c vs [j]) :
  Calls Tryz.prog 30 #[.pointer (some ⟨p, 0, none⟩)] w fun e w' => ∃ q v, e = .returned (.tuple #[.pointer (some ⟨q, 0, none⟩), .nilIface]) ∧ TreeAt D w' q v j ∧ Keeps (fun _ => False) w w' := by
 obtain ⟨v, hv⟩ : ∃ v, vs = [v] := by
  have := h.len
  match vs, this with
  | [v], _ => exact ⟨v, rfl⟩
 subst hv
 have hj := h.at_ 0 v j rfl rfl
 obtain ⟨T, y, hv⟩ := hj.iface
 subst hv
 have hr : Rd w A 1 [.iface T y] := Rd.of_own h.own
 obtain ⟨g, o, rfl, hc⟩ := hr.2 (by decide)
 have hp := h.blk.cell 0
 have hcg : w.cell? ⟨g, o, none⟩ = some (.iface T y) := hc 0 (by decide)
 have HH := Lib.hid (And.intro h hj)
 have HB := Lib.hid (Blk.new w 78 [.iface T y])
 clear h hj hr hc
 go_enter Tryz.func30, Tryz.ntmps30
 go_wp2
 go_ret2
 exact ⟨_, _, rfl, ⟨HH.out.1.new _ (Nat.le_refl _), HB.out, ((HH.out.2.mono (C := D) fun i h _ => h.1).stay ((Keeps.refl (fun _ => False) w).alloc _))⟩, (Keeps.refl (fun _ => False) w).alloc _⟩
end Go.Proofs.YtdmcioghdindfaaGreat
