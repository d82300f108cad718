/- Texts. -/
import Derived.Test.YtplleficmkfniaaGreatDoorS21
import Derived.Test.YtplleficmkfniaaGreatDoorRows
import Derived.Deep.Slices
import Derived.Deep.Strs
set_option linter.unusedSimpArgs false
set_option maxRecDepth 100000
set_option maxHeartbeats 4000000
namespace Go.Proofs.YtplleficmkfniaaGreatDoor
open Go Go.RowKit Go.Aff Go.Json
def StepsR (w : World) (A : Option Addr) (l : List StepV) : Prop := ∀ (k : Nat) (s : StepV), l[k]? = some s → ∃ g o B d, A = some ⟨g, o, none⟩ ∧ w.rangeAt g (o + k * 6) (stepV s B d) ∧ Rd w B s.keys.length (s.keys.map .string) ∧ s.keys.length ≤ d
theorem StepsR.at_ {w : World} {A : Option Addr} {l : List StepV} (h : StepsR w A l) : StepsAt w A l := fun k s hs => by
 obtain ⟨g, o, B, d, h1, h2, h3, _⟩ := h k s hs
 exact ⟨g, o, B, d, h1, h2, h3⟩
theorem StepsR.stay {w w' : World} {A : Option Addr} {l : List StepV} (h : StepsR w A l) (hk : Keeps (fun _ => False) w w') : StepsR w' A l := fun k s hs => by
 obtain ⟨g, o, B, d, e, hr, hb, hd⟩ := h k s hs
 exact ⟨g, o, B, d, e, fun j v hj => cell_keep hk (hr j v hj), hb.keep hk (fun _ _ _ h => h), hd⟩
structure StepFits2 (s : StepV) : Prop where
 fits : StepFits s
 count : s.count ≤ 9223372036854775807
structure StepsIn (w : World) (A : Option Addr) (n : Nat) (css : List (List Value)) (l : List StepV) : Prop where
 rd : RdS 6 w A n css.flatten
 len : l.length = n
 cells : css.length = n
 at_ : ∀ (i : Nat) (s : StepV), l[i]? = some s → ∃ B d, css[i]? = some (stepV s B d) ∧ Rd w B s.keys.length (s.keys.map .string) ∧ s.keys.length ≤ d
section
variable {w w' : World} {A : Option Addr} {n : Nat} {css : List (List Value)} {l : List StepV}
theorem StepsIn.stay (h : StepsIn w A n css l) (hk : Keeps (fun _ => False) w w') : StepsIn w' A n css l := ⟨h.rd.stay hk, h.len, h.cells, fun i s hs => by
 obtain ⟨B, d, h1, h2, h3⟩ := h.at_ i s hs
 exact ⟨B, d, h1, h2.keep hk (fun _ _ _ h => h), h3⟩⟩
theorem StepsIn.six (h : StepsIn w A n css l) : ∀ c ∈ css, c.length = 6 ∧ ∀ u ∈ c, u.oneCell' = true := fun c hc => by
 obtain ⟨i, hi⟩ := List.getElem?_of_mem hc
 have hlt := (List.getElem?_eq_some_iff.1 hi).1
 obtain ⟨s, hs⟩ : ∃ s, l[i]? = some s := ⟨_, List.getElem?_eq_getElem (by rw [h.len, ← h.cells]; exact hlt)⟩
 obtain ⟨B, d, h1, _, _⟩ := h.at_ i s hs
 rw [hi] at h1
 injection h1 with h1
 rw [h1]
 exact ⟨rfl, stepV_one _ _ _⟩
theorem StepsIn.to (h : StepsIn w A n css l) : StepsR w A l := fun k s hs => by
 have hk := (List.getElem?_eq_some_iff.1 hs).1
 rw [h.len] at hk
 obtain ⟨B, d, h1, h2, h3⟩ := h.at_ k s hs
 obtain ⟨g, o, e, hc⟩ := h.rd.2 (by omega)
 exact ⟨g, o, B, d, e, item_range hc hk (fun c hc => (h.six c hc).1) h1, h2, h3⟩
end
def bulkS (s : StepV) : Nat := 1 + s.text.size + s.keys.length + byF s.keys
structure Modest (l : List StepV) : Prop where
 all : sumN (l.map bulkS) ≤ 1048576
 bits : ∀ s ∈ l, s.bits < 18446744073709551616
 count : ∀ s ∈ l, s.count ≤ 9223372036854775807
theorem Modest.one {l : List StepV} (h : Modest l) {s : StepV} (hs : s ∈ l) : bulkS s ≤ 1048576 := Nat.le_trans (sumN_mem (List.mem_map.2 ⟨s, hs, rfl⟩)) h.all
theorem Modest.len {l : List StepV} (h : Modest l) : l.length ≤ 1048576 := by
 have : ∀ m : List StepV, m.length ≤ sumN (m.map bulkS) := by
  intro m
  induction m with
  | nil => exact Nat.zero_le _
  | cons a m ih => simp only [List.map_cons, sumN, List.length_cons]; unfold bulkS; unfold bulkS at ih; omega
 exact Nat.le_trans (this l) h.all
theorem Modest.fits {l : List StepV} (h : Modest l) : ∀ s ∈ l, StepFits2 s := fun s hs => by
 have h1 := h.one hs
 unfold bulkS at h1
 exact ⟨⟨by omega, by omega, by omega, h.bits s hs⟩, h.count s hs⟩
end Go.Proofs.YtplleficmkfniaaGreatDoor
namespace Go.Proofs.YtplleficmkfniaaGreatDoor
open Go Go.RowKit Go.Aff Go.Json Go.ChangeShapes Go.WideShapes Go.Deep
section
variable {H : Type} {enc : TypeId × Value → H} {w : World} {base : Nat} {held : Bool}
theorem bulk_map (D : Nat → DataW H) : ∀ l : List Nat, Rows.uptoBulkAll (l.map D) = sumN (l.map fun i => Rows.uptoBulk (D i))
 | [] => by simp [Rows.uptoBulkAll, sumN]
 | i :: l => by simp only [List.map_cons, Rows.uptoBulkAll, sumN, bulk_map D l]
theorem sumN_suc (f : Nat → Nat) : ∀ l : List Nat, sumN (l.map fun i => f i + 1) = l.length + sumN (l.map f)
 | [] => rfl
 | i :: l => by simp only [List.map_cons, sumN, List.length_cons, sumN_suc f l]; omega
theorem sumN_map_le {f g : Nat → Nat} : ∀ {l : List Nat}, (∀ i ∈ l, f i ≤ g i) → sumN (l.map f) ≤ sumN (l.map g)
 | [], _ => Nat.le_refl _
 | i :: l, h => by
  have h1 := h i (List.mem_cons_self ..)
  have h2 := sumN_map_le (l := l) fun j hj => h j (List.mem_cons_of_mem _ hj)
  simp only [List.map_cons, sumN]; omega
instance : Inhabited ByteArray := ⟨.empty⟩
theorem open_strs {fuel : Nat} {cs : List Value} {x : DataW H × List MemPlace} (h : DataW.trod enc Tryz.prog w base (fun _ => true) held fuel 78 cs = some x) :
  ∃ (B : Option Addr) (d : Nat) (ks : List ByteArray), cs = [.slice B ks.length d] ∧ Rd w B ks.length (ks.map .string) ∧ ks.length ≤ d ∧ ks.length + byF ks ≤ Rows.uptoBulk x.1 := by
 rcases open_slice1 Tryz.underlying78 (by kernel_rfl) h with ⟨rfl, rfl⟩ | ⟨a, len, cap, m, n, V, D, Pl, rfl, _, hl, _, hm, rfl, hx⟩
 ·exact ⟨none, 0, [], rfl, Rd.nil _ _, Nat.le_refl _, Nat.zero_le _⟩
 ·simp only [if_true] at hm
  obtain ⟨s, hs⟩ := choose_lt (α := ByteArray) (n := len) (p := fun i s => w.cell? (a.add i) = some (.string s) ∧ Rows.uptoBulk (D i) = s.size + 1) fun i hi => by
   obtain ⟨h1, h2⟩ := hx i (by omega)
   obtain ⟨s, e1, e2, _⟩ := DataW.trod_string Tryz.underlying9 h2
   injection e1 with e1
   injection e2 with e2
   refine ⟨s, by rw [h1, e1], ?_⟩
   rw [e2, Rows.uptoBulk, Array.length_toList]
   rfl
  have hlen : ((List.range len).map s).length = len := by simp
  refine ⟨some a, cap, (List.range len).map s, by rw [hlen], ?_, by rw [hlen]; exact hl, ?_⟩
  ·rw [hlen]
   refine ⟨by simp, fun hn => ?_⟩
   obtain ⟨g, o, spot⟩ := a
   have h0 := (hs 0 hn).1
   have hsp : spot = none := by simpa [Addr.add] using World.cell?_spot h0
   subst hsp
   refine ⟨g, o, rfl, fun j hj => ?_⟩
   have h1 := (hs j hj).1
   rw [add_at] at h1
   rw [h1]
   simp [hj]
  ·rw [hlen, Rows.uptoBulk, bulk_map]
   have h1 : sumN ((List.range len).map fun i => (s i).size + 1) ≤ sumN ((List.range len).map fun i => Rows.uptoBulk (D i)) := sumN_map_le fun i hi => by
    rw [(hs i (List.mem_range.1 hi)).2]
    exact Nat.le_refl _
   rw [sumN_suc, List.length_range] at h1
   have h2 : byF ((List.range len).map s) = sumN ((List.range len).map fun i => (s i).size) := by unfold byF; rw [List.map_map]; rfl
   omega
theorem trod_fields6 {P : Program} {spare : Nat → Bool} {t : TypeId} {f0 f1 f2 f3 f4 f5 : Field} {fuel : Nat} {cs : List Value} {x : DataW H × List MemPlace} (ht : P.underlying t = some (.struct #[f0, f1, f2, f3, f4, f5])) (h : DataW.trod enc P w base spare held fuel t cs = some x) :
  ∃ y0 y1 y2 y3 y4 y5 n, x.1 = .agg [y0.1, y1.1, y2.1, y3.1, y4.1, y5.1] ∧ DataW.trod enc P w base spare held n f0.type ((cs.drop f0.offset).take (P.cellsOf f0.type)) = some y0 ∧
   DataW.trod enc P w base spare held n f1.type ((cs.drop f1.offset).take (P.cellsOf f1.type)) = some y1 ∧ DataW.trod enc P w base spare held n f2.type ((cs.drop f2.offset).take (P.cellsOf f2.type)) = some y2 ∧
   DataW.trod enc P w base spare held n f3.type ((cs.drop f3.offset).take (P.cellsOf f3.type)) = some y3 ∧ DataW.trod enc P w base spare held n f4.type ((cs.drop f4.offset).take (P.cellsOf f4.type)) = some y4 ∧
   DataW.trod enc P w base spare held n f5.type ((cs.drop f5.offset).take (P.cellsOf f5.type)) = some y5 := by
 obtain ⟨xs, n, _, rfl, hl, hlen, hf⟩ := DataW.trod_struct ht h
 match xs, hlen with
 | [y0, y1, y2, y3, y4, y5], _ => exact ⟨y0, y1, y2, y3, y4, y5, n, by simp, by simpa using hf 0 f0 rfl, by simpa using hf 1 f1 rfl, by simpa using hf 2 f2 rfl, by simpa using hf 3 f3 rfl, by simpa using hf 4 f4 rfl, by simpa using hf 5 f5 rfl⟩
theorem pieces6 {α : Type} (l : List α) (h : l.length = 6) : l = (l.drop 0).take 1 ++ ((l.drop 1).take 1 ++ ((l.drop 2).take 1 ++ ((l.drop 3).take 1 ++ ((l.drop 4).take 1 ++ (l.drop 5).take 1)))) := by
 match l, h with
 | [a, b, c, d, e, f], _ => rfl
theorem open_astep {fuel : Nat} {cs : List Value} {x : DataW H × List MemPlace} (hcl : cs.length = 6) (h : DataW.trod enc Tryz.prog w base (fun _ => true) held fuel 131 cs = some x) :
  ∃ (s : StepV) (B : Option Addr) (d : Nat), cs = stepV s B d ∧ Rd w B s.keys.length (s.keys.map .string) ∧ s.keys.length ≤ d ∧ bulkS s ≤ Rows.uptoBulk x.1 ∧ s.bits < 18446744073709551616 ∧ s.count ≤ 9223372036854775807 := by
 have cI : Tryz.prog.cellsOf 3 = 1 := by kernel_rfl
 have cO : Tryz.prog.cellsOf 106 = 1 := by kernel_rfl
 have cB : Tryz.prog.cellsOf 4 = 1 := by kernel_rfl
 have cU : Tryz.prog.cellsOf 76 = 1 := by kernel_rfl
 have cS : Tryz.prog.cellsOf 9 = 1 := by kernel_rfl
 have cK : Tryz.prog.cellsOf 78 = 1 := by kernel_rfl
 obtain ⟨y0, y1, y2, y3, y4, y5, n, hx, h0, h1, h2, h3, h4, h5⟩ := trod_fields6 Tryz.underlying131 h
 simp only [cO] at h0
 simp only [cB] at h1
 simp only [cU] at h2
 simp only [cS] at h3
 simp only [cI] at h4
 simp only [cK] at h5
 obtain ⟨z0, e0, _, _⟩ := DataW.trod_int Tryz.underlying106 h0
 obtain ⟨z1, e1, _⟩ := DataW.trod_bool Tryz.underlying4 h1
 obtain ⟨z2, e2, _, w2⟩ := DataW.trod_int Tryz.underlying76 h2
 obtain ⟨z3, e3, d3, _⟩ := DataW.trod_string Tryz.underlying9 h3
 obtain ⟨z4, e4, _, w4⟩ := DataW.trod_int Tryz.underlying3 h4
 obtain ⟨B, d, ks, e5, hR, hd, hb⟩ := open_strs h5
 have b2 := bounds_u64 w2
 have b4 := bounds_i64 w4
 refine ⟨⟨z0, z1, z2.toNat, z3, z4, ks⟩, B, d, ?_, hR, hd, ?_, by show z2.toNat < _; omega, b4.2⟩
 ·rw [pieces6 cs hcl]
  erw [e0, e1, e2, e3, e4, e5]
  unfold stepV
  rw [show ((z2.toNat : Nat) : Int) = z2 by omega]
  rfl
 ·rw [hx, d3]
  simp only [Rows.uptoBulk, Rows.uptoBulkAll, Array.length_toList]
  unfold bulkS
  show 1 + z3.size + ks.length + byF ks ≤ _
  have : z3.size = z3.data.size := rfl
  omega
instance : Inhabited StepV := ⟨⟨0, false, 0, .empty, 0, []⟩⟩
theorem open_asteps {r : Reach} {b0 : Nat} {v : Value} {d : DataW H} {p : List MemPlace} (hv : Value.okWide Tryz.prog w r b0 24 v) (h : DataW.Trod enc Tryz.prog w base (fun _ => true) held 24 v d p) (hk : Rows.uptoBulk d ≤ 1048576) :
  ∃ (A : Option Addr) (n c : Nat) (css : List (List Value)) (l : List StepV), v = .slice A n c ∧ StepsIn w A n css l ∧ Modest l := by
 obtain ⟨A, n, c, rfl⟩ := okWide_slice Tryz.underlying24 hv
 obtain ⟨fuel, hf⟩ := h
 have c6 : Tryz.prog.cellsOf 131 = 6 := by kernel_rfl
 rcases open_slice Tryz.underlying24 hf with ⟨hcs, hx⟩ | ⟨a, len, cap, m, nn, D, Pl, hcs, _, hl, hm, hmm, hx, hi⟩
 ·simp [Value.cells] at hcs
  obtain ⟨rfl, rfl, rfl⟩ := hcs
  exact ⟨none, 0, 0, [], [], rfl, ⟨⟨rfl, fun h => by omega⟩, rfl, rfl, fun i s h => by simp at h⟩, ⟨by simp [sumN], fun s h => by simp at h, fun s h => by simp at h⟩⟩
 ·simp [Value.cells] at hcs
  obtain ⟨rfl, rfl, rfl⟩ := hcs
  simp only [if_true] at hmm
  obtain ⟨f, hfun⟩ := choose_lt (α := StepV) (n := n) (p := fun k s => ∃ B d0, (∀ j, j < 6 → w.cell? ((a.add (k * 6)).add j) = (stepV s B d0)[j]?) ∧ Rd w B s.keys.length (s.keys.map .string) ∧ s.keys.length ≤ d0 ∧ bulkS s ≤ Rows.uptoBulk (D k) ∧ s.bits < 18446744073709551616 ∧ s.count ≤ 9223372036854775807) fun k hkn => by
   obtain ⟨cs', hc, ht⟩ := hi k (by omega)
   rw [c6] at hc
   obtain ⟨_, hcl, hat⟩ := World.cells?_some hc
   obtain ⟨s, B, d0, e, h1, h2, h3, h4, h5⟩ := open_astep hcl ht
   exact ⟨s, B, d0, fun j hj => by rw [← e]; exact hat j hj, h1, h2, h3, h4, h5⟩
  obtain ⟨BB, hBB⟩ := choose_lt (α := Option Addr × Nat) (n := n) (p := fun k q => (∀ j, j < 6 → w.cell? ((a.add (k * 6)).add j) = (stepV (f k) q.1 q.2)[j]?) ∧ Rd w q.1 (f k).keys.length ((f k).keys.map .string) ∧ (f k).keys.length ≤ q.2) fun k hkn => by
   obtain ⟨B, d0, h1, h2, h3, _⟩ := hfun k hkn
   exact ⟨(B, d0), h1, h2, h3⟩
  have hsix : ∀ cs ∈ (List.range n).map fun k => stepV (f k) (BB k).1 (BB k).2, cs.length = 6 := fun cs h => by
   obtain ⟨k, _, rfl⟩ := List.mem_map.1 h
   rfl
  refine ⟨some a, n, c, (List.range n).map fun k => stepV (f k) (BB k).1 (BB k).2, (List.range n).map f, rfl, ⟨⟨?_, fun hn => ?_⟩, by simp, by simp, fun i s hs => ?_⟩, ⟨?_, fun s hs => ?_, fun s hs => ?_⟩⟩
  ·rw [List.length_flatten]
   rw [List.map_congr_left (g := fun _ => 6) (by intro x hx; exact hsix x hx)]
   have h6 : ∀ L : List (List Value), (L.map fun _ => 6).sum = L.length * 6 := fun L => by
    induction L with
    | nil => rfl
    | cons a L ih => simp only [List.map_cons, List.sum_cons, List.length_cons, ih]; omega
   rw [h6]
   simp
  ·have h0 := (hBB 0 hn).1 0 (by decide)
   obtain ⟨g, o, spot⟩ := a
   have hsp : spot = none := by simpa [Addr.add] using World.cell?_spot h0
   subst hsp
   refine ⟨g, o, rfl, fun j hj => ?_⟩
   have hq : j / 6 < n := by omega
   have h1 := (hBB (j / 6) hq).1 (j % 6) (Nat.mod_lt _ (by decide))
   rw [add_at, add_at, show o + j / 6 * 6 + j % 6 = o + j by omega] at h1
   rw [h1]
   obtain ⟨u, hu⟩ : ∃ u, (stepV (f (j / 6)) (BB (j / 6)).1 (BB (j / 6)).2)[j % 6]? = some u := ⟨_, List.getElem?_eq_getElem (by show j % 6 < 6; omega)⟩
   have h2 := flat_get (i := j / 6) hsix (by rw [List.getElem?_map, List.getElem?_range hq]; rfl) hu
   rw [show j / 6 * 6 + j % 6 = j by omega] at h2
   rw [h2, hu]
  ·have hin : i < n := by
    have := (List.getElem?_eq_some_iff.1 hs).1
    simpa using this
   have he : f i = s := by simpa [hin] using hs
   obtain ⟨_, h2, h3⟩ := hBB i hin
   refine ⟨(BB i).1, (BB i).2, by rw [List.getElem?_map, List.getElem?_range hin, ← he]; rfl, by rw [← he]; exact h2, by rw [← he]; exact h3⟩
  ·rw [List.map_map]
   have h1 : sumN ((List.range n).map fun k => bulkS (f k)) ≤ sumN ((List.range n).map fun i => Rows.uptoBulk (D i)) := sumN_map_le fun i hi => by
    obtain ⟨_, _, _, _, _, h4, _⟩ := hfun i (List.mem_range.1 hi)
    exact h4
   have h2 := hk
   rw [show d = (d, p).1 from rfl, hx, Rows.uptoBulk, bulk_map] at h2
   exact Nat.le_trans h1 (by omega)
  ·obtain ⟨k, hk2, rfl⟩ := List.mem_map.1 hs
   obtain ⟨_, _, _, _, _, _, h5, _⟩ := hfun k (List.mem_range.1 hk2)
   exact h5
  ·obtain ⟨k, hk2, rfl⟩ := List.mem_map.1 hs
   obtain ⟨_, _, _, _, _, _, _, h6⟩ := hfun k (List.mem_range.1 hk2)
   exact h6
end
end Go.Proofs.YtplleficmkfniaaGreatDoor
namespace Go.Aff
open Go Go.RowKit
theorem step_store_whole {P : Program} {Q : Exit → Act → World → Prop} {K : Act → World → Prop} {ops : Array Oper} {a : Act} {w : World} {o : Oper} (hgd : o.guard = none) (ty : TypeId) (x v : Operand) (ho : o.op = .store ty x v)
  {g : Nat} {t : TypeId} {cs : List Value} (vs : List Value) (hx : a.eval x = .pointer (some ⟨g, 0, none⟩)) (hv : a.eval v = .agg vs.toArray) (hg : Blk w g t cs) (hl : cs.length = vs.length) (hi : (P.info? ty).map (·.size) = some vs.length) (h1 : ∀ v ∈ vs, v.oneCell' = true)
  (h : K (a.put o.dst undef) (w.setRow g vs.toArray)) : if Region.wanted o (yielded ops a.tmps) = true then Oper.wp P o a w K Q else K (a.put o.dst undef) w := by
 have hw : Region.wanted o (yielded ops a.tmps) = true := by simp [Region.wanted, hgd]
 rw [if_pos hw]
 unfold Oper.wp execOp
 simp only [ho, hx, hv, Instr.storeAt, Instr.sureAddr, Sem.run_bind, Sem.run_pure, Result.andThen_ok, run_storeVar_at ty 0 vs hg (by omega) hi h1]
 rw [splice_all _ _ hl]
 exact h
theorem setRow_keep (w : World) (p : Nat) (cs : Array Value) : Keeps (fun i => i = p) w (w.setRow p cs) := (Keeps.refl (fun i => i = p) w).setRow (.inl rfl) cs
def IsCells (w : World) (i : Nat) : Prop := ∃ c t fr, w.heap[i]? = some (Obj.cells c t fr)
theorem IsCells.keep {F : Nat → Prop} {w w' : World} {i : Nat} (h : IsCells w i) (k : Keeps F w w') (hF : ¬ F i) : IsCells w' i := by
 obtain ⟨c, t, fr, h⟩ := h
 exact ⟨c, t, fr, (k.block i (Array.getElem?_eq_some_iff.1 h).1 hF).trans h⟩
theorem IsCells.lt {w : World} {i : Nat} (h : IsCells w i) : i < w.heap.size := by
 obtain ⟨c, t, fr, h⟩ := h
 exact (Array.getElem?_eq_some_iff.1 h).1
theorem IsCells.blk {w : World} {i : Nat} {t : TypeId} {cs : List Value} (h : Blk w i t cs) : IsCells w i := ⟨_, _, _, h⟩
theorem IsCells.own {w : World} {b : Nat} {e : TypeId} {s n : Nat} {v : Value} {xs : List Value} (h : w.ownsRow b e s v n xs) : ∀ g, v.ownBlock = some g → IsCells w g := fun g hg => by
 rcases h.2 with ⟨rfl, _⟩ | ⟨g1, c1, cur, rfl, _, hh, _⟩
 ·cases hg
 ·have e1 : some g1 = some g := hg
  injection e1 with e1
  subst e1
  exact ⟨_, _, _, hh⟩
structure LogAt (T RT BT : TypeId) (E : Nat → Prop) (w : World) (p : Nat) (A : Option Addr) (c : Nat) (vals : List Value) (gs : List Nat) (l : List (List Int)) : Prop where
 box : Blk w p T [.slice A l.length c]
 inE : E p
 row : w.ownsRow 0 RT 1 (.slice A l.length c) l.length vals
 rowE : ∀ g, (Value.slice A l.length c).ownBlock = some g → E g
 len : gs.length = l.length
 nd : gs.Nodup
 at_ : ∀ (i : Nat) (g : Nat) (bs : List Int), gs[i]? = some g → l[i]? = some bs → E g ∧ ∃ ci, vals[i]? = some (.slice (some ⟨g, 0, none⟩) bs.length ci) ∧ w.ownsRow 0 BT 1 (.slice (some ⟨g, 0, none⟩) bs.length ci) bs.length (vb bs)
def LogSt (T RT BT : TypeId) (E : Nat → Prop) (w : World) (p : Nat) (l : List (List Int)) : Prop := ∃ A c vals gs, LogAt T RT BT E w p A c vals gs l
section
variable {T RT BT : TypeId} {E C F : Nat → Prop} {w w' w1 : World} {p : Nat} {A A' : Option Addr} {c c' : Nat} {vals : List Value} {gs : List Nat} {l : List (List Int)}
theorem LogAt.keep (h : LogAt T RT BT E w p A c vals gs l) (k : Keeps F w w') (hF : ∀ i, E i → ¬ F i) : LogAt T RT BT E w' p A c vals gs l :=
 ⟨k.blk h.box (hF _ h.inE), h.inE, k.own h.row (fun g hg => hF _ (h.rowE g hg)), h.rowE, h.len, h.nd, fun i g bs h1 h2 => by
  obtain ⟨h3, ci, h4, h5⟩ := h.at_ i g bs h1 h2
  exact ⟨h3, ci, h4, k.own h5 (fun g' hg' => by have e : some g = some g' := hg'; injection e with e; subst e; exact hF _ h3)⟩⟩
theorem LogAt.mono (h : LogAt T RT BT E w p A c vals gs l) (hC : ∀ i, E i → i < w.heap.size → C i) : LogAt T RT BT C w p A c vals gs l :=
 ⟨h.box, hC _ h.inE h.box.lt, h.row, fun g hg => hC _ (h.rowE g hg) (h.row.lt g hg).2, h.len, h.nd, fun i g bs h1 h2 => by
  obtain ⟨h3, ci, h4, h5⟩ := h.at_ i g bs h1 h2
  exact ⟨hC _ h3 (own_ltN h5), ci, h4, h5⟩⟩
theorem LogSt.keep (h : LogSt T RT BT E w p l) (k : Keeps F w w') (hF : ∀ i, E i → ¬ F i) : LogSt T RT BT E w' p l := by
 obtain ⟨A, c, vals, gs, h⟩ := h
 exact ⟨A, c, vals, gs, h.keep k hF⟩
theorem LogSt.mono (h : LogSt T RT BT E w p l) (hC : ∀ i, E i → i < w.heap.size → C i) : LogSt T RT BT C w p l := by
 obtain ⟨A, c, vals, gs, h⟩ := h
 exact ⟨A, c, vals, gs, h.mono hC⟩
theorem LogAt.grow (h : LogAt T RT BT E w p A c vals gs l) (h1 : RT ≠ T) (h2 : BT ≠ RT) (h3 : BT ≠ T) {g ci n : Nat} {bs : List Int} (hn : bs.length = n) (hg : ¬ E g) (hown : w.ownsRow 0 BT 1 (.slice (some ⟨g, 0, none⟩) n ci) n (vb bs)) {k : Nat} (hk : l.length = k)
  (hgr : w.grownBy w1 (Value.slice A k c).ownBlock) (ho : w1.ownsRow 0 RT 1 (.slice A' (k + 1) c') (k + 1) (vals ++ [.slice (some ⟨g, 0, none⟩) n ci])) (hb : (Value.slice A' (k + 1) c').ownBlock = (Value.slice A k c).ownBlock ∨ (Value.slice A' (k + 1) c').ownBlock = some w.heap.size) :
  LogSt T RT BT (fun i => (E i ∧ (Value.slice A k c).ownBlock ≠ some i) ∨ i = g ∨ (Value.slice A' (k + 1) c').ownBlock = some i) (w1.setCell ⟨p, 0, none⟩ (.slice A' (k + 1) c')) p (l ++ [bs]) ∧ Keeps E w (w1.setCell ⟨p, 0, none⟩ (.slice A' (k + 1) c')) ∧
   ((∀ i, E i → IsCells w i) → ∀ i, (E i ∧ (Value.slice A k c).ownBlock ≠ some i) ∨ i = g ∨ (Value.slice A' (k + 1) c').ownBlock = some i → IsCells (w1.setCell ⟨p, 0, none⟩ (.slice A' (k + 1) c')) i) ∧ ∀ i, (Value.slice A' (k + 1) c').ownBlock = some i → E i ∨ w.heap.size ≤ i := by
 subst hn hk
 have k1 : Keeps (fun i => (Value.slice A l.length c).ownBlock = some i) w w1 := Keeps.of_grown hgr
 have hp : (Value.slice A l.length c).ownBlock ≠ some p := own_blk h.row h.box h1
 have hgl : g < w.heap.size := own_ltN hown
 have hgp : g ≠ p := fun e => hg (e ▸ h.inE)
 have k2 : Keeps (fun i => i = p) w1 (w1.setCell ⟨p, 0, none⟩ (.slice A' (l.length + 1) c')) := (Keeps.refl (fun i => i = p) w1).setCell (p := ⟨p, 0, none⟩) (.inl rfl) _
 have hnew : ∀ g', (Value.slice A' (l.length + 1) c').ownBlock = some g' → E g' ∨ w.heap.size ≤ g' := fun g' hg' => by
  rcases hb with e | e
  ·exact .inl (h.rowE g' (e.symm.trans hg'))
  ·rw [e] at hg'; injection hg' with hg'; exact .inr (by omega)
 have hvl : vals.length = l.length := by have := h.row.1; simpa using this
 have hlen : (l ++ [bs]).length = l.length + 1 := by simp
 have hrows : ∀ (g' n' ci' : Nat) (xs : List Value), w.ownsRow 0 BT 1 (.slice (some ⟨g', 0, none⟩) n' ci') n' xs → g' ≠ p → (w1.setCell ⟨p, 0, none⟩ (.slice A' (l.length + 1) c')).ownsRow 0 BT 1 (.slice (some ⟨g', 0, none⟩) n' ci') n' xs := fun g' n' ci' xs hh hne =>
  k2.own (k1.own hh (fun i hi e => own_types h.row hh h2.symm e hi)) (fun i hi e => hne (by have e1 : some g' = some i := hi; injection e1 with e1; omega))
 refine ⟨⟨A', c', vals ++ [.slice (some ⟨g, 0, none⟩) bs.length ci], gs ++ [g], ?_, .inl ⟨h.inE, hp⟩, ?_, ?_, by simp [h.len], ?_, ?_⟩, ?_⟩
 ·rw [hlen]
  exact (k1.blk h.box hp).set_ 0 _
 ·rw [hlen]
  exact k2.own ho (fun g' hg' e => by
   subst e
   rcases hnew g' hg' with e1 | e1
   ·rcases hb with e2 | e2
    ·exact hp (e2.symm.trans hg')
    ·rw [e2] at hg'; injection hg' with hg'; have := h.box.lt; omega
   ·have := h.box.lt; omega)
 ·rw [hlen]
  exact fun g' hg' => .inr (.inr hg')
 ·rw [List.nodup_append]
  refine ⟨h.nd, by simp, fun a ha b hb' => ?_⟩
  rw [List.mem_singleton.1 hb']
  rintro rfl
  obtain ⟨i, hi, e⟩ := List.mem_iff_getElem.1 ha
  have hil : i < l.length := by rw [← h.len]; exact hi
  exact hg (e ▸ (h.at_ i gs[i] l[i] (List.getElem?_eq_getElem hi) (List.getElem?_eq_getElem hil)).1)
 ·intro i g' bs' e1 e2
  rcases Nat.lt_or_ge i l.length with hi | hi
  ·rw [List.getElem?_append_left (by rw [h.len]; exact hi)] at e1
   rw [List.getElem?_append_left hi] at e2
   obtain ⟨h4, ci', h5, h6⟩ := h.at_ i g' bs' e1 e2
   refine ⟨.inl ⟨h4, fun e => own_types h.row h6 h2.symm e rfl⟩, ci', by rw [List.getElem?_append_left (by rw [hvl]; exact hi)]; exact h5, hrows _ _ _ _ h6 (fun e => ?_)⟩
   subst e
   exact own_blk h6 h.box h3 rfl
  ·have hi2 : i = l.length := by have := (List.getElem?_eq_some_iff.1 e2).1; simp at this; omega
   subst hi2
   rw [List.getElem?_append_right (by rw [h.len]; exact Nat.le_refl _), h.len, Nat.sub_self] at e1
   rw [List.getElem?_append_right (Nat.le_refl _), Nat.sub_self] at e2
   simp at e1 e2
   subst e1 e2
   exact ⟨.inr (.inl rfl), ci, by rw [List.getElem?_append_right (by rw [hvl]; exact Nat.le_refl _), hvl, Nat.sub_self]; rfl, hrows _ _ _ _ hown hgp⟩
 ·refine ⟨(k1.mono fun i _ hi => h.rowE i hi).trans k2 fun i _ e => e ▸ h.inE, fun hc i hi => ?_, hnew⟩
  by_cases hip : i = p
  ·subst hip
   exact IsCells.blk ((k1.blk h.box hp).set_ 0 _)
  ·by_cases hio : (Value.slice A' (l.length + 1) c').ownBlock = some i
   ·exact (IsCells.own ho i hio).keep k2 hip
   ·rcases hi with hi | hi | hi
    ·exact ((hc i hi.1).keep k1 hi.2).keep k2 hip
    ·subst hi
     exact ((IsCells.own hown i rfl).keep k1 fun e => own_types h.row hown h2.symm e rfl).keep k2 hip
    ·exact absurd hi hio
end
structure Took (S : (Nat → Prop) → World → List (List Int) → Prop) (E E' : Nat → Prop) (w w' : World) (l' : List (List Int)) : Prop where
 st : S E' w' l'
 new : ∀ i, E' i → E i ∨ w.heap.size ≤ i
 cel : ∀ i, E' i → IsCells w' i
 keep : Keeps E w w'
theorem Took.lt {S : (Nat → Prop) → World → List (List Int) → Prop} {E E' : Nat → Prop} {w w' : World} {l' : List (List Int)} (h : Took S E E' w w' l') : ∀ i, E' i → i < w'.heap.size := fun i hi => (h.cel i hi).lt
theorem Took.trans {S : (Nat → Prop) → World → List (List Int) → Prop} {E E1 E2 : Nat → Prop} {w w1 w2 : World} {l1 l2 : List (List Int)} (h : Took S E E1 w w1 l1) (k : Took S E1 E2 w1 w2 l2) : Took S E E2 w w2 l2 :=
 ⟨k.st, fun i hi => (k.new i hi).elim (h.new i) fun e => .inr (Nat.le_trans h.keep.size e), k.cel, h.keep.trans k.keep fun i hi e => (h.new i e).elim id fun e => by omega⟩
theorem Took.begin {S : (Nat → Prop) → World → List (List Int) → Prop} {E E' : Nat → Prop} {w0 w w' : World} {l' : List (List Int)} (k : Keeps (fun _ => False) w0 w) (h : Took S E E' w w' l') : Took S E E' w0 w' l' :=
 ⟨h.st, fun i hi => (h.new i hi).imp id (fun e => Nat.le_trans k.size e), h.cel, (k.mono fun _ _ h => h.elim).trans h.keep fun _ _ e => e⟩
structure Lasts (S : (Nat → Prop) → World → List (List Int) → Prop) : Prop where
 keep : ∀ (E F : Nat → Prop) (w w' : World) (l : List (List Int)), S E w l → Keeps F w w' → (∀ i, E i → ¬ F i) → S E w' l
theorem Took.more {S : (Nat → Prop) → World → List (List Int) → Prop} (hS : Lasts S) {E E' F : Nat → Prop} {w w1 w2 : World} {l' : List (List Int)} (h : Took S E E' w w1 l') (k : Keeps F w1 w2) (hF : ∀ i, F i → w.heap.size ≤ i ∧ ¬ E' i) : Took S E E' w w2 l' :=
 ⟨hS.keep _ _ _ _ _ h.st k fun i hi hf => (hF i hf).2 hi, h.new, fun i hi => (h.cel i hi).keep k fun hf => (hF i hf).2 hi, h.keep.trans k fun i hi e => by have := (hF i e).1; omega⟩
theorem Took.stay {S : (Nat → Prop) → World → List (List Int) → Prop} (hS : Lasts S) {E E' : Nat → Prop} {w w1 w2 : World} {l' : List (List Int)} (h : Took S E E' w w1 l') (k : Keeps (fun _ => False) w1 w2) : Took S E E' w w2 l' :=
 h.more hS k fun _ e => e.elim
theorem Took.start {S : (Nat → Prop) → World → List (List Int) → Prop} {E : Nat → Prop} {w : World} {l : List (List Int)} (h : S E w l) (hl : ∀ i, E i → IsCells w i) : Took S E E w w l := ⟨h, fun _ h => .inl h, hl, Keeps.refl _ _⟩
end Go.Aff
namespace Go.Proofs.YtplleficmkfniaaGreatDoor
open Go Go.RowKit Go.Aff
def takeV (p : Nat) : Value := .func (.func 68) #[] #[.pointer (some ⟨p, 0, none⟩)]
def TkSt (fv : Value) (E : Nat → Prop) (w : World) (l : List (List Int)) : Prop := fv = .nilFunc ∨ ∃ p, fv = takeV p ∧ LogSt 39 48 5 E w p l
def RgSt (p : Nat) (E : Nat → Prop) (w : World) (l : List (List Int)) : Prop := LogSt 143 48 5 E w p l
theorem tkLasts (fv : Value) : Lasts (TkSt fv) := ⟨fun _ _ _ _ _ h k hF => h.imp id fun ⟨p, e, h⟩ => ⟨p, e, h.keep k hF⟩⟩
theorem rgLasts (p : Nat) : Lasts (RgSt p) := ⟨fun _ _ _ _ _ h k hF => LogSt.keep h k hF⟩
structure Tkg (S : (Nat → Prop) → World → List (List Int) → Prop) (E : Nat → Prop) (w : World) (l : List (List Int)) : Prop where
 st : S E w l
 cel : ∀ i, E i → IsCells w i
 gt : ∀ i, E i → GT ≤ i
 glob : GW w
theorem Tkg.lt {S : (Nat → Prop) → World → List (List Int) → Prop} {E : Nat → Prop} {w : World} {l : List (List Int)} (h : Tkg S E w l) : ∀ i, E i → i < w.heap.size := fun i hi => (h.cel i hi).lt
theorem Tkg.next {S : (Nat → Prop) → World → List (List Int) → Prop} {E E' : Nat → Prop} {w w' : World} {l l' : List (List Int)} (h : Tkg S E w l) (k : Took S E E' w w' l') : Tkg S E' w' l' :=
 ⟨k.st, k.cel, fun i hi => (k.new i hi).elim (h.gt i) fun e => Nat.le_trans h.glob.top e, h.glob.keep k.keep h.gt⟩
theorem Tkg.keep {S : (Nat → Prop) → World → List (List Int) → Prop} (hS : Lasts S) {E F : Nat → Prop} {w w' : World} {l : List (List Int)} (h : Tkg S E w l) (k : Keeps F w w') (hF : ∀ i, E i → ¬ F i) (hG : ∀ i, F i → GT ≤ i) : Tkg S E w' l :=
 ⟨hS.keep _ _ _ _ _ h.st k hF, fun i hi => (h.cel i hi).keep k (hF i hi), h.gt, h.glob.keep k hG⟩
theorem Tkg.stay {S : (Nat → Prop) → World → List (List Int) → Prop} (hS : Lasts S) {E : Nat → Prop} {w w' : World} {l : List (List Int)} (h : Tkg S E w l) (k : Keeps (fun _ => False) w w') : Tkg S E w' l := h.keep hS k (fun _ _ h => h) fun _ h => h.elim
theorem Tkg.none {w : World} (h : GW w) (l : List (List Int)) : Tkg (TkSt .nilFunc) (fun _ => False) w l := ⟨.inl rfl, fun _ h => h.elim, fun _ h => h.elim, h⟩
theorem Took.keeps {S : (Nat → Prop) → World → List (List Int) → Prop} {E' : Nat → Prop} {w w' : World} {l' : List (List Int)} (h : Took S (fun _ => False) E' w w' l') : Keeps (fun _ => False) w w' := h.keep
theorem TkSt.none (E : Nat → Prop) (w : World) (l : List (List Int)) : TkSt .nilFunc E w l := .inl rfl
end Go.Proofs.YtplleficmkfniaaGreatDoor
namespace Go.Proofs.YtplleficmkfniaaGreatDoor
open Go Go.RowKit Go.Aff Go.Shelf
attribute [local go_sem] Oper.semAt_some
theorem infoRow : (Tryz.prog.info? 48).map (fun i => (i.zero, i.size, i.bytes)) = some (some (.slice none 0 0), 1, 24) := by kernel_rfl
theorem bclone_any (w : World) (A : Option Addr) (n c : Nat) (vs : List Value) (hr : Rd w A n vs) (h1 : ∀ u ∈ vs, u.oneCell' = true) (hn : n ≤ 140737488351232) :
  Calls Tryz.prog 65 #[.slice A n c] w fun e w' => ∃ A' c', e = .returned (.slice A' n c') ∧ Mine w w' 5 A' n c' vs := by
 cases A with
 | none =>
  have hz : n = 0 := by
   rcases Nat.eq_zero_or_pos n with h | h
   ·exact h
   ·obtain ⟨g, o, e, _⟩ := hr.2 h
    cases e
  subst hz
  have hv : vs = [] := List.length_eq_zero_iff.1 hr.1
  subst hv
  clear hr h1
  have hnil := fun wx => Lib.run_eql_slice_nil (P := Tryz.prog) wx 48 5 none 0 c 0 0 Tryz.underlying48
  go_enter Tryz.func65, Tryz.ntmps65
  go_wp2
  go_ret
  exact ⟨none, 0, rfl, ⟨World.ownsRow_nil _ _ _ _, Keeps.refl _ _, fun g h => by cases h⟩⟩
 | some a =>
  have HM := H_ (Mine.built w w 5 0 [] (Keeps.refl _ w) rfl (by unfold maxLen; omega))
  have HR := H_ (hr.alloc (.cells #[] 5))
  have H1 := H_ h1
  clear hr h1
  have hnil := fun wx => Lib.run_eql_slice_nil (P := Tryz.prog) wx 48 5 (some a) n c 0 0 Tryz.underlying48
  go_enter Tryz.func65, Tryz.ntmps65
  go_wp2_with (at_builtin; refine wpList_append_rd _ rfl (.tmp 5) (.tmp 6) 48 rfl 5 (.int .u8 0) 1 Tryz.underlying48 info5 rfl _ 0 [] rfl HM.out.1 (some a) n c vs rfl HR.out H1.out (by unfold maxLen; omega) (by omega) ?_; intro A' c' w' hown hg hb; have HM2 := H_ (HM.out.app0 hown hg hb); clear hown hg hb)
  go_ret
  have hm := HM2.out
  rw [List.nil_append, Nat.zero_add] at hm
  exact ⟨A', c', rfl, hm⟩
theorem mine_some {w w' : World} {e : TypeId} {A : Option Addr} {n c : Nat} {xs : List Value} (h : Mine w w' e A n c xs) (hn : 0 < n) : ∃ g, A = some ⟨g, 0, none⟩ ∧ w.heap.size ≤ g := by
 rcases h.1.2 with ⟨_, h0⟩ | ⟨g, cap, cur, hv, _⟩
 ·omega
 ·injection hv with hv _ _
  exact ⟨g, hv, h.2.2 g (by rw [hv]; rfl)⟩
theorem texts_push {E : Nat → Prop} {w w3 w5 : World} {p : Nat} {B : Option Addr} {d k : Nat} {vals : List Value} {gs : List Nat} {l : List (List Int)} (h : LogAt 39 48 5 E w p B d vals gs l) (hk : k = l.length) {bs : List Int} {n : Nat} (hn : bs.length = n) (hC : ∀ i, E i → IsCells w i)
  (k3 : Keeps (fun _ => False) w w3) {g3 c3 : Nat} (ho3 : w3.ownsRow 0 5 1 (.slice (some ⟨g3, 0, none⟩) n c3) n (vb bs)) (hg3 : w.heap.size ≤ g3) {A5 : Option Addr} {c5 : Nat}
  (ho5 : w5.ownsRow 0 48 1 (.slice A5 (k + 1) c5) (k + 1) (vals ++ [.slice (some ⟨g3, 0, none⟩) n c3])) (hg5 : (w3.alloc (.cells #[.slice (some ⟨g3, 0, none⟩) n c3] 48)).grownBy w5 (Value.slice B k d).ownBlock)
  (hb5 : (Value.slice A5 (k + 1) c5).ownBlock = (Value.slice B k d).ownBlock ∨ (Value.slice A5 (k + 1) c5).ownBlock = some (w3.alloc (.cells #[.slice (some ⟨g3, 0, none⟩) n c3] 48)).heap.size) :
  Blk w5 p 39 [.slice B k d] ∧ ∃ E', Took (LogSt 39 48 5 · · p ·) E E' w (w5.setCell ⟨p, 0, none⟩ (.slice A5 (k + 1) c5)) (l ++ [bs]) := by
 have k4 : Keeps (fun _ => False) w (w3.alloc (.cells #[.slice (some ⟨g3, 0, none⟩) n c3] 48)) := k3.alloc _
 have h4 := h.keep k4 (fun _ _ h => h)
 have ho4 : (w3.alloc (.cells #[.slice (some ⟨g3, 0, none⟩) n c3] 48)).ownsRow 0 5 1 (.slice (some ⟨g3, 0, none⟩) n c3) n (vb bs) := (((Keeps.refl (fun _ => False) w3).alloc _).own ho3 (fun _ _ h => h))
 have hne : ¬ E g3 := fun e => by have := (hC _ e).lt; omega
 have hr := h4.grow (by decide) (by decide) (by decide) hn hne ho4 hk.symm hg5 ho5 hb5
 have hp : (Value.slice B k d).ownBlock ≠ some p := by rw [hk]; exact own_blk h.row h.box (by decide)
 have hbx := (Keeps.of_grown hg5).blk h4.box hp
 rw [← hk] at hbx
 refine ⟨hbx, _, hr.1, fun i hi => ?_, hr.2.2.1 fun i hi => (hC i hi).keep k4 (fun h => h), (k4.mono fun _ _ h => h.elim).trans hr.2.1 fun _ _ h => h⟩
 rcases hi with hi | hi | hi
 ·exact .inl hi.1
 ·exact .inr (by omega)
 ·exact (hr.2.2.2 i hi).imp id fun h => Nat.le_trans k4.size h
theorem texts1_any (w : World) (E : Nat → Prop) (p : Nat) (l : List (List Int)) (h : LogSt 39 48 5 E w p l) (hl : l.length ≤ 1099511627776) (A : Option Addr) (n c : Nat) (bs : List Int) (hn : bs.length = n) (hr : Rd w A n (vb bs)) (ho : Out E A n) (h0 : 0 < n) (hb : n ≤ 1099511627776) (hE : ∀ i, E i → IsCells w i) :
  Calls Tryz.prog 68 #[.slice A n c, .pointer (some ⟨p, 0, none⟩)] w fun e w' => e = .returned (.tuple #[]) ∧ ∃ E', Took (LogSt 39 48 5 · · p ·) E E' w w' (l ++ [bs]) := by
 obtain ⟨B, d, vals, gs, hh⟩ := h
 obtain ⟨k, hk⟩ : ∃ k, k = l.length := ⟨_, rfl⟩
 have hF : ∀ i, (Value.slice B k d).ownBlock = some i → E i := fun i hi => hh.rowE i (by rw [← hk]; exact hi)
 have hp : (Value.slice B k d).ownBlock ≠ some p := by rw [hk]; exact own_blk hh.row hh.box (by decide)
 have HSR : Hid (∀ V, Keeps (fun i => (Value.slice B k d).ownBlock = some i) w V → V.cell? ⟨p, 0, none⟩ = some (.slice B k d)) := H_ fun V hV => by
  have h3 := (hV.blk hh.box hp).cell 0
  rw [← hk] at h3
  exact h3
 have HCL : Hid (∀ V, Keeps (fun i => (Value.slice B k d).ownBlock = some i) w V → Calls Tryz.prog 65 #[.slice A n c] V fun e w' => ∃ g c', e = .returned (.slice (some ⟨g, 0, none⟩) n c') ∧ Hid (Mine V w' 5 (some ⟨g, 0, none⟩) n c' (vb bs) ∧ V.heap.size ≤ g)) := H_ fun V hV =>
  (bclone_any V A n c (vb bs) (hr.keep hV (ho.mono hF)) (vb_one bs) (by omega)).mono fun e w' ⟨A', c', he, hm⟩ => by
   obtain ⟨g, hA, hg⟩ := mine_some hm h0
   subst hA
   exact ⟨g, c', he, H_ ⟨hm, hg⟩⟩
 have HH := H_ (And.intro hh hk)
 have HOW : Hid (∀ V, Keeps (fun _ => False) w V → V.ownsRow 0 48 1 (.slice B k d) k vals) := H_ fun V hV => by
  have := (hh.keep hV (fun _ _ h => h)).row
  rwa [← hk] at this
 have HX := H_ (And.intro hn (And.intro h0 (And.intro hE (And.intro hF hp))))
 have HLK : Hid (k ≤ 1099511627776) := H_ (by omega)
 clear hh hk hF hp hr ho hn h0 hb hE hl
 go_enter Tryz.func68, Tryz.ntmps68
 refine wp_region_tail (S := (fun V => Keeps (fun i => (Value.slice B k d).ownBlock = some i) w V)) 5 (by kernel_rfl) (Keeps.refl _ _).drew (fun h_ => ?_)
 refine tT [0] (i := 0) (oi := ⟨some 3, _, _, _, _, _⟩) (v := ?_) rfl (Or.inl ⟨by rfl, ?_⟩) h_ ?_
 rotate_left
 ·intro w' hSw
  have cv := HSR.out _ hSw
  go_simp
  first | done | rfl
 try simp only [pu]
 refine tJ 1 4 ?_
 try simp only [pu]
 refine wpAnyT_step (i := 2) (o := ⟨some 5, _, _, _, _, _⟩) (by kernel_rfl) rfl (fun K hK => ?_)
 go_simp
 refine (HCL.out _ h_).mono ?_
 rintro e w3 ⟨g3, c3, rfl, HM3⟩
 have hS3 := h_.trans HM3.out.1.2.1 (fun _ _ h => h.elim)
 have hW3 := h_
 refine hK.out _ _ hS3 (fun h_ => ?_)
 clear hK K
 try simp only [pu]
 refine wpAnyT_step (i := 3) (o := ⟨some 6, _, _, _, _, _⟩) (by kernel_rfl) rfl (fun K hK => ?_)
 go_simp
 refine hK.out _ _ (h_.alloc _) (fun h_ => ?_)
 clear hK K
 try simp only [pu]
 refine wpAnyT_step (i := 4) (o := ⟨some 7, _, _, _, _, _⟩) (by kernel_rfl) rfl (fun K hK => ?_)
 refine step_append_own rfl (.tmp 3) (.tmp 6) 39 rfl 48 (.slice none 0 0) 1 24 Tryz.underlying39 infoRow rfl (by decide) B k d vals rfl (HOW.out _ ((((Keeps.refl _ w).drew).trans HM3.out.1.2.1 fun _ _ h => h).alloc _)) ⟨w3.heap.size, 0, none⟩ 1 1 [.slice (some ⟨g3, 0, none⟩) n c3] rfl rfl (cell_one_new _ _ _) (by intro u hu; rw [List.mem_singleton.1 hu]; rfl) (by have := HLK.out; simp only [maxLen]; omega) (by have := HLK.out; omega) ?_
 intro A5 c5 w5 ho5 hg5 hb5
 have HP5 := H_ (texts_push HH.out.1 HH.out.2 HX.out.1 HX.out.2.2.1 ((((Keeps.refl _ w).drew).trans HM3.out.1.2.1 fun _ _ h => h)) HM3.out.1.1 (Nat.le_trans ((Keeps.refl (fun _ => False) w).drew).size HM3.out.2) ho5 hg5 hb5)
 have hS5 := h_.grown hg5 (fun g e => .inl e)
 refine hK.out _ _ hS5 (fun h_ => ?_)
 clear hK K
 try simp only [pu]
 refine wpAnyT_tail (i := 5) (o := ⟨none, _, _, _, _, _⟩) (by kernel_rfl) (by kernel_rfl) rfl (fun K hK => ?_)
 have cv := HP5.out.1.cell 0
 have fz := HP5.out.1.frozen 0
 go_simp
 refine hK.out _ _ ?_
 clear hK K
 try simp only [pu]
 refine wpAnyT_done (by kernel_rfl) ?_
 go_wp2
 go_end0
 exact ⟨rfl, HP5.out.2⟩
end Go.Proofs.YtplleficmkfniaaGreatDoor
