/-
  Opening a script: a slice of structures of three numbers, parts and a middle.
-/
import Derived.Test.YtgblndddcbfdiaaDoorCardK
import Derived.Test.YtgblndddcbfdiaaDoorOpenK
import Derived.Test.YtgblndddcbfdiaaDoorShaBW
import Derived.Deep.Slices
import Derived.Deep.Strs
set_option linter.unusedSimpArgs false
namespace Go.Aff
open Go Go.RowKit
/-- One call: of which kind, of which hash, to which place; parts; a middle. -/
structure StepV where
  kind : Int
  who : Int
  dst : Int
  PA : Option Addr
  pc : Nat
  pss : List (List Int)
  st : Nat → Int
  nb : Nat
  MA : Option Addr
  mc : Nat
  X : List Int
end Go.Aff
namespace Go.Proofs.YtgblndddcbfdiaaDoor
open Go Go.RowKit Go.Sha Go.Aff Go.ChangeShapes Go.WideShapes Go.Deep
def stepCells (o : StepV) : List Value := .int .i64 o.kind :: .int .i64 o.who :: .int .i64 o.dst :: .slice o.PA o.pss.length o.pc :: hcells o.st (o.nb : Int) (.slice o.MA o.X.length o.mc)
/-- What is known of one call. -/
structure StepOK (w : World) (o : StepV) : Prop where
  parts : RdPartsO (fun _ => False) w o.PA o.pss
  few : o.pss.length ≤ 1048576
  flat : o.pss.flatten.length ≤ 1048576
  rd : Rd w o.MA o.X.length (vb o.X)
  by_ : IsBytes o.X
  le : o.X.length ≤ 1048576
  nb : o.nb < 18446744073709551616
def StepsAt (w : World) (E : Option Addr) (ops : List StepV) : Prop := ∀ (k : Nat) (op : StepV), ops[k]? = some op → ∃ g o, E = some ⟨g, o, none⟩ ∧ w.rangeAt g (o + k * 14) (stepCells op) ∧ StepOK w op
section
variable {H : Type} {enc : TypeId × Value → H} {w : World} {base : Nat} {held : Bool}
theorem trod_struct5 {P : Program} {spare : Nat → Bool} {t : TypeId} {f0 f1 f2 f3 f4 : Field} {fuel : Nat} {cs : List Value} {x : DataW H × List MemPlace} (ht : P.underlying t = some (.struct #[f0, f1, f2, f3, f4])) (h : DataW.trod enc P w base spare held fuel t cs = some x) :
    ∃ y0 y1 y2 y3 y4 n, x.1 = .agg [y0.1, y1.1, y2.1, y3.1, y4.1] ∧ DataW.trod enc P w base spare held n f0.type ((cs.drop f0.offset).take (P.cellsOf f0.type)) = some y0 ∧
      DataW.trod enc P w base spare held n f1.type ((cs.drop f1.offset).take (P.cellsOf f1.type)) = some y1 ∧ DataW.trod enc P w base spare held n f2.type ((cs.drop f2.offset).take (P.cellsOf f2.type)) = some y2 ∧
      DataW.trod enc P w base spare held n f3.type ((cs.drop f3.offset).take (P.cellsOf f3.type)) = some y3 ∧ DataW.trod enc P w base spare held n f4.type ((cs.drop f4.offset).take (P.cellsOf f4.type)) = some y4 := by
  obtain ⟨xs, n, _, rfl, hl, hlen, hf⟩ := DataW.trod_struct ht h
  match xs, hlen with
  | [y0, y1, y2, y3, y4], _ => exact ⟨y0, y1, y2, y3, y4, n, by simp, by simpa using hf 0 f0 rfl, by simpa using hf 1 f1 rfl, by simpa using hf 2 f2 rfl, by simpa using hf 3 f3 rfl, by simpa using hf 4 f4 rfl⟩
theorem trod_struct3' {P : Program} {spare : Nat → Bool} {t : TypeId} {f0 f1 f2 : Field} {fuel : Nat} {cs : List Value} {x : DataW H × List MemPlace} (ht : P.underlying t = some (.struct #[f0, f1, f2])) (h : DataW.trod enc P w base spare held fuel t cs = some x) :
    ∃ y0 y1 y2 n, x.1 = .agg [y0.1, y1.1, y2.1] ∧ DataW.trod enc P w base spare held n f0.type ((cs.drop f0.offset).take (P.cellsOf f0.type)) = some y0 ∧
      DataW.trod enc P w base spare held n f1.type ((cs.drop f1.offset).take (P.cellsOf f1.type)) = some y1 ∧ DataW.trod enc P w base spare held n f2.type ((cs.drop f2.offset).take (P.cellsOf f2.type)) = some y2 := by
  obtain ⟨xs, n, _, rfl, hl, hlen, hf⟩ := DataW.trod_struct ht h
  match xs, hlen with
  | [y0, y1, y2], _ => exact ⟨y0, y1, y2, n, by simp, by simpa using hf 0 f0 rfl, by simpa using hf 1 f1 rfl, by simpa using hf 2 f2 rfl⟩
/-- A slice of bytes, by its cell. -/
theorem open_bytes_cell {fuel : Nat} {cs : List Value} {x : DataW H × List MemPlace} (h : DataW.trod enc Tryd.prog w base (fun _ => true) held fuel 26 cs = some x) :
    ∃ (A : Option Addr) (c : Nat) (bs : List Int), cs = [.slice A bs.length c] ∧ Rd w A bs.length (vb bs) ∧ IsBytes bs ∧ bs.length ≤ c ∧ bs.length ≤ Rows.uptoBulk x.1 := by
  rcases open_ints Tryd.underlying26 Tryd.underlying5 (by kernel_rfl) h with ⟨hcs, hx⟩ | ⟨a, len, cap, zs, hcs, _, hl, hm, hz, hx, hcell, hwz⟩
  · exact ⟨none, 0, [], hcs, Rd.nil _ _, (fun x hx => by cases hx), Nat.le_refl _, Nat.zero_le _⟩
  · simp only [if_true] at hz
    have hlen : (zs.take len).length = len := by rw [List.length_take]; omega
    refine ⟨some a, cap, zs.take len, by rw [hlen]; exact hcs, ?_, bytes_take (isBytes_of hwz), by omega, ?_⟩
    · rw [hlen]
      refine rd_at (by unfold vb; rw [List.length_map]; exact hlen) (fun h => by cases h) (fun a' ha j hj => ?_)
      injection ha with ha
      subst ha
      rw [hcell j (by omega)]
      have hjz : j < zs.length := by omega
      have e1 : (vb (zs.take len))[j]? = some (.int .u8 (zs[j]'hjz)) := by
        unfold vb
        rw [List.getElem?_map, List.getElem?_take, if_pos hj, List.getElem?_eq_getElem hjz]
        rfl
      rw [e1]
      simp [List.getElem?_eq_getElem hjz]
    · rw [hlen, hx]
      have := bulk_len (lits (H := H) .u8 (zs.take len))
      have e : (lits (H := H) .u8 (zs.take len)).length = len := by unfold lits; rw [List.length_map]; exact hlen
      simp only [Rows.uptoBulk]
      omega
/-- A slice of byte slices, by its cell. -/
theorem open_parts_cell {fuel : Nat} {cs : List Value} {x : DataW H × List MemPlace} (h : DataW.trod enc Tryd.prog w base (fun _ => true) held fuel 61 cs = some x) :
    ∃ (A : Option Addr) (c : Nat) (pss : List (List Int)) (vals : List Value), cs = [.slice A pss.length c] ∧ Rd w A pss.length vals ∧
      (∀ (i : Nat) (bs : List Int), pss[i]? = some bs → ∃ A' c', vals[i]? = some (Value.slice A' bs.length c') ∧ Rd w A' bs.length (vb bs) ∧ IsBytes bs ∧ bs.length ≤ c') ∧ PartsData x.1 pss := by
  rcases open_int_rows Tryd.underlying61 Tryd.underlying26 Tryd.underlying5 (by kernel_rfl) (by kernel_rfl) h with ⟨hcs, hx⟩ | ⟨a, n, c, A1, L, C, Z, hcs, _, hl, hm, hx, hc⟩
  · exact ⟨none, 0, [], [], hcs, Rd.nil _ _, (fun i bs h => by simp at h), .inl ⟨by rw [hx], rfl⟩⟩
  · have hpl : ((List.range n).map (fun r => (Z r).take (L r))).length = n := by simp
    refine ⟨some a, c, (List.range n).map (fun r => (Z r).take (L r)), (List.range n).map (fun r => Value.slice (A1 r) (L r) (C r)), by rw [hpl]; exact hcs, ?_, ?_, ?_⟩
    · rw [hpl]
      refine rd_at (by simp) (fun h => by cases h) (fun a' ha j hj => ?_)
      injection ha with ha
      subst ha
      rw [(hc j (by omega)).1]
      simp [hj]
    · intro i bs hi
      have hin : i < n := by
        have := (List.getElem?_eq_some_iff.1 hi).1
        simpa using this
      have hb : (Z i).take (L i) = bs := by simpa [hin] using hi
      obtain ⟨h1, h2, h3, h4, h5, h6, h7⟩ := hc i (by omega)
      have hlen : bs.length = L i := by rw [← hb, List.length_take]; omega
      refine ⟨A1 i, C i, by simp [hin, hlen], ?_, ?_, by omega⟩
      · rw [hlen]
        refine rd_at (by simp [vb, hlen]) (fun h => by have := h6 h; omega) (fun a' ha j hj => ?_)
        rw [(h7 a' ha).2 j (by omega)]
        have hjb : j < bs.length := by omega
        have e : bs[j]? = (Z i)[j]? := by rw [← hb, List.getElem?_take, if_pos hj]
        have hjz : j < (Z i).length := by omega
        simp [vb, e, List.getD_eq_getElem?_getD, List.getElem?_eq_getElem hjz]
      · rw [← hb]
        exact bytes_take (isBytes_of h5)
    · right
      refine ⟨_, _, (by rw [hx]), by simp, fun i bs hi => ?_⟩
      have hin : i < n := by
        have := (List.getElem?_eq_some_iff.1 hi).1
        simpa using this
      have hb : (Z i).take (L i) = bs := by simpa [hin] using hi
      obtain ⟨h1, h2, h3, h4, h5, h6, h7⟩ := hc i (by omega)
      cases hA : A1 i with
      | none =>
        left
        have := h6 hA
        rw [← hb, show L i = 0 by omega]
        simp
      | some a' =>
        right
        refine ⟨lits .u8 ((Z i).take (L i)), lits .u8 ((Z i).drop (L i)), ?_, by simp [lits, ← hb]⟩
        simp [hin, intRow, hA]
/-- Eight words, by their cells. -/
theorem open_words_cells {fuel : Nat} {cs : List Value} {x : DataW H × List MemPlace} (h : DataW.trod enc Tryd.prog w base (fun _ => true) held fuel 38 cs = some x) : ∃ st : Nat → Int, cs = wl st := by
  obtain ⟨ys, m, _, _, hl, hyl, hd⟩ := DataW.trod_array Tryd.underlying38 h
  rw [cells8U32] at hl
  obtain ⟨zs, hzs, hw⟩ := ints_of_cells (k := .u32) cs (fun i hi => by
    have h1 := hd i (by omega)
    rw [cellsU32, Nat.mul_one] at h1
    obtain ⟨y, hy⟩ : ∃ y, ys[i]? = some y := ⟨_, List.getElem?_eq_getElem (by omega)⟩
    rw [hy] at h1
    obtain ⟨z, e1, _, e2⟩ := DataW.trod_int Tryd.underlying37 h1
    refine ⟨z, ?_, e2⟩
    have h3 := congrArg (·[0]?) e1
    simpa [List.getElem?_take, List.getElem?_drop, Value.cells] using h3)
  have hzl : zs.length = 8 := by
    have := congrArg List.length hzs
    simp [vi] at this
    omega
  refine ⟨fun i => zs.getD i 0, ?_⟩
  rw [hzs]
  match zs, hzl with
  | [a0, a1, a2, a3, a4, a5, a6, a7], _ => rfl
theorem pieces14 {α : Type} (l : List α) (h : l.length = 14) : l = (l.drop 0).take 1 ++ ((l.drop 1).take 1 ++ ((l.drop 2).take 1 ++ ((l.drop 3).take 1 ++ (l.drop 4).take 10))) := by
  have e : ∀ a b, l.drop a = (l.drop a).take b ++ l.drop (a + b) := fun a b => by
    rw [← List.drop_drop]; exact (List.take_append_drop b (l.drop a)).symm
  have e4 : l.drop 4 = (l.drop 4).take 10 := by rw [List.take_of_length_le (by rw [List.length_drop]; omega)]
  have e3 := e 3 1
  have e2 := e 2 1
  have e1 := e 1 1
  have e0 := e 0 1
  simp only [Nat.reduceAdd] at e0 e1 e2 e3
  conv => lhs; rw [show l = l.drop 0 by simp, e0, e1, e2, e3, e4]
theorem pieces10 {α : Type} (l : List α) (h : l.length = 10) : l = (l.drop 0).take 8 ++ ((l.drop 8).take 1 ++ (l.drop 9).take 1) := by
  have e : ∀ a b, l.drop a = (l.drop a).take b ++ l.drop (a + b) := fun a b => by
    rw [← List.drop_drop]; exact (List.take_append_drop b (l.drop a)).symm
  have e4 : l.drop 9 = (l.drop 9).take 1 := by rw [List.take_of_length_le (by rw [List.length_drop]; omega)]
  have e1 := e 8 1
  have e0 := e 0 8
  simp only [Nat.reduceAdd] at e0 e1
  conv => lhs; rw [show l = l.drop 0 by simp, e0, e1, e4]
/-- One call, by its cells. -/
theorem open_step {fuel : Nat} {cs : List Value} {x : DataW H × List MemPlace} (hcl : cs.length = 14) (h : DataW.trod enc Tryd.prog w base (fun _ => true) held fuel 71 cs = some x) (hk : Rows.uptoBulk x.1 ≤ 1048576) :
    ∃ o : StepV, cs = stepCells o ∧ StepOK w o := by
  have cI : Tryd.prog.cellsOf 3 = 1 := by kernel_rfl
  have cP : Tryd.prog.cellsOf 61 = 1 := by kernel_rfl
  have cB : Tryd.prog.cellsOf 26 = 1 := by kernel_rfl
  have cM : Tryd.prog.cellsOf 49 = 10 := by kernel_rfl
  have cU : Tryd.prog.cellsOf 29 = 1 := by kernel_rfl
  obtain ⟨y0, y1, y2, y3, y4, n, hx, h0, h1, h2, h3, h4⟩ := trod_struct5 Tryd.underlying71 h
  simp only [cI] at h0 h1 h2
  simp only [cP] at h3
  simp only [cM] at h4
  obtain ⟨u0, u1, u2, n', hu, g0, g1, g2⟩ := trod_struct3' Tryd.underlying49 h4
  simp only [cells8U32] at g0
  simp only [cU] at g1
  simp only [cB] at g2
  obtain ⟨z0, e0, _, _⟩ := DataW.trod_int Tryd.underlying3 h0
  obtain ⟨z1, e1, _, _⟩ := DataW.trod_int Tryd.underlying3 h1
  obtain ⟨z2, e2, _, _⟩ := DataW.trod_int Tryd.underlying3 h2
  obtain ⟨PA, pc, pss, vals, e3, R3, V3, D3⟩ := open_parts_cell h3
  obtain ⟨st, f0⟩ := open_words_cells g0
  obtain ⟨nb, f1, _, hnb⟩ := DataW.trod_int Tryd.underlying29 g1
  obtain ⟨MA, mc, X, f2, R2, B2, l2, b2⟩ := open_bytes_cell g2
  have hnb' : 0 ≤ nb ∧ nb < 18446744073709551616 := by
    have := bounds_u64 hnb
    omega
  have hml : ((cs.drop 4).take 10).length = 10 := by rw [List.length_take, List.length_drop]; omega
  have e4 : (cs.drop 4).take 10 = hcells st ((nb.toNat : Nat) : Int) (.slice MA X.length mc) := by
    rw [pieces10 _ hml]
    erw [f0, f1, f2]
    rw [show ((nb.toNat : Nat) : Int) = nb by omega]
    rfl
  have ps := parts_small D3
  have hb : Rows.uptoBulk y3.1 + Rows.uptoBulk u2.1 ≤ 1048576 := by
    rw [hx] at hk
    simp only [Rows.uptoBulk, Rows.uptoBulkAll] at hk
    rw [hu] at hk
    simp only [Rows.uptoBulk, Rows.uptoBulkAll] at hk
    omega
  refine ⟨⟨z0, z1, z2, PA, pc, pss, st, nb.toNat, MA, mc, X⟩, ?_, ?_⟩
  · rw [pieces14 cs hcl]
    erw [e0, e1, e2, e3, e4]
    rfl
  · exact ⟨(partsO_of R3 V3 (by omega)).1, by simp only; omega, by simp only; omega, R2, B2, by simp only; omega, by simp only; omega⟩
set_option maxRecDepth 100000 in
theorem open_steps {r : Reach} {b0 : Nat} {v : Value} {d : DataW H} {p : List MemPlace} (hv : Value.okWide Tryd.prog w r b0 65 v) (h : DataW.Trod enc Tryd.prog w base (fun _ => true) held 65 v d p) (hk : Rows.uptoBulk d ≤ 1048576) :
    ∃ (A : Option Addr) (n c : Nat) (ops : List StepV), v = .slice A n c ∧ ops.length = n ∧ StepsAt w A ops ∧ n ≤ 1048576 := by
  obtain ⟨A, n, c, rfl⟩ := okWide_slice Tryd.underlying65 hv
  obtain ⟨fuel, hf⟩ := h
  have c14 : Tryd.prog.cellsOf 71 = 14 := by kernel_rfl
  rcases open_slice Tryd.underlying65 hf with ⟨hcs, hx⟩ | ⟨a, len, cap, m, nn, D, Pl, hcs, _, hl, hm, hmm, hx, hi⟩
  · simp [Value.cells] at hcs
    obtain ⟨rfl, rfl, rfl⟩ := hcs
    exact ⟨none, 0, 0, [], rfl, rfl, (fun k op hk => by simp at hk), Nat.zero_le _⟩
  · simp [Value.cells] at hcs
    obtain ⟨rfl, rfl, rfl⟩ := hcs
    simp only [if_true] at hmm
    have e2 : d = .slice ((List.range n).map D) ((List.range (m - n)).map fun j => D (n + j)) := by injection hx
    have hbk : ∀ k, k < n → Rows.uptoBulk (D k) ≤ 1048576 := fun k hkn => by
      have h1 := bulk_mem ((List.range n).map D) k (D k) (by simp [hkn])
      rw [e2] at hk
      simp only [Rows.uptoBulk] at hk
      omega
    have hnb : n ≤ 1048576 := by
      have h1 := bulk_len ((List.range n).map D)
      rw [e2] at hk
      simp only [Rows.uptoBulk] at hk
      simp at h1
      omega
    have hone : ∀ k, k < n → ∃ op : StepV, (∀ j v, (stepCells op)[j]? = some v → w.cell? (a.add (k * 14 + j)) = some v) ∧ StepOK w op := fun k hkn => by
      obtain ⟨cs', hc, ht⟩ := hi k (by omega)
      rw [c14] at hc
      obtain ⟨_, hcl, hat⟩ := World.cells?_some hc
      obtain ⟨o, ho, hok⟩ := open_step hcl ht (by exact hbk k hkn)
      refine ⟨o, fun j v hj => ?_, hok⟩
      rw [← ho] at hj
      have hlt := (List.getElem?_eq_some_iff.1 hj).1
      have := hat j (by omega)
      rw [add_add] at this
      exact this.trans hj
    obtain ⟨f, hfun⟩ : ∃ f : Nat → StepV, ∀ k, k < n → (∀ j v, (stepCells (f k))[j]? = some v → w.cell? (a.add (k * 14 + j)) = some v) ∧ StepOK w (f k) :=
      ⟨fun k => if hk : k < n then Classical.choose (hone k hk) else ⟨0, 0, 0, none, 0, [], fun _ => 0, 0, none, 0, []⟩, fun k hk => by
        simp only [hk, dif_pos]
        exact Classical.choose_spec (hone k hk)⟩
    refine ⟨some a, n, c, (List.range n).map f, rfl, by simp, fun k op hk => ?_, hnb⟩
    have hkn : k < n := by
      have := (List.getElem?_eq_some_iff.1 hk).1
      simpa using this
    have he : op = f k := by simpa [hkn] using hk.symm
    subst he
    obtain ⟨h1, h2⟩ := hfun k hkn
    have h0 := (hfun 0 (by omega)).1 0 _ rfl
    obtain ⟨g, o, spot⟩ := a
    have hs : spot = none := by simpa [Addr.add] using World.cell?_spot h0
    subst hs
    refine ⟨g, o, rfl, fun j v hj => ?_, h2⟩
    have := h1 j v hj
    rw [add_at, ← Nat.add_assoc] at this
    exact this
end
end Go.Proofs.YtgblndddcbfdiaaDoor
