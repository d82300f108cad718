/-
  Opening a script: a slice of structures of two numbers and a slice of bytes.
-/
import Derived.Test.YtnlnbgjpbnjjfaaDoorCardK
import Derived.Test.YtnlnbgjpbnjjfaaDoorMacsP
import Derived.Deep.Slices
import Derived.Deep.Strs
set_option linter.unusedSimpArgs false
namespace Go.Proofs.YtnlnbgjpbnjjfaaDoor
open Go Go.RowKit Go.Sha Go.Aff Go.Mac Go.ChangeShapes Go.WideShapes Go.Deep
section
variable {H : Type} {enc : TypeId × Value → H} {w : World} {base : Nat} {held : Bool}
/-- A slice of bytes, by its cell. -/
theorem open_bytes_cell {fuel : Nat} {cs : List Value} {x : DataW H × List MemPlace} (h : DataW.trod enc Tryd.prog w base (fun _ => true) held fuel 22 cs = some x) :
    ∃ (A : Option Addr) (c : Nat) (bs : List Int), cs = [.slice A bs.length c] ∧ Rd w A bs.length (vb bs) ∧ IsBytes bs ∧ bs.length ≤ c ∧ bs.length ≤ Rows.uptoBulk x.1 := by
  rcases open_ints Tryd.underlying22 Tryd.underlying5 (by kernel_rfl) h with ⟨hcs, hx⟩ | ⟨a, len, cap, zs, hcs, _, hl, hm, hz, hx, hcell, hwz⟩
  · exact ⟨none, 0, [], hcs, Rd.nil _ _, (fun x hx => by cases hx), Nat.le_refl _, Nat.zero_le _⟩
  · simp only [if_true] at hz
    have hlen : (zs.take len).length = len := by rw [List.length_take]; omega
    refine ⟨some a, cap, zs.take len, by rw [hlen]; exact hcs, ?_, bytes_take (isBytes_of hwz), by omega, ?_⟩
    · rw [hlen]
      refine rd_at (by unfold vb; rw [List.length_map]; exact hlen) (fun h => by cases h) (fun a' ha j hj => ?_)
      injection ha with ha
      subst ha
      rw [hcell j (by omega)]
      have hjz : j < zs.length := by omega
      have e1 : (vb (zs.take len))[j]? = some (.int .u8 (zs[j]'hjz)) := by
        unfold vb
        rw [List.getElem?_map, List.getElem?_take, if_pos hj, List.getElem?_eq_getElem hjz]
        rfl
      rw [e1]
      simp [List.getElem?_eq_getElem hjz]
    · rw [hlen, hx]
      have := bulk_len (lits (H := H) .u8 (zs.take len))
      have e : (lits (H := H) .u8 (zs.take len)).length = len := by unfold lits; rw [List.length_map]; exact hlen
      simp only [Rows.uptoBulk]
      omega
theorem bulk_ops : ∀ (es : List (DataW H)) (ops : List OpV), es.length = ops.length → (∀ (i : Nat) (op : OpV), ops[i]? = some op → ∃ e, es[i]? = some e ∧ op.bs.length ≤ Rows.uptoBulk e) → (ops.map fun op => op.bs.length).sum ≤ Rows.uptoBulkAll es
  | [], [], _, _ => by simp
  | [], _ :: _, h, _ => by simp at h
  | _ :: _, [], h, _ => by simp at h
  | e :: es, op :: ops, h, hp => by
    have ih := bulk_ops es ops (by simpa using h) (fun i b hi => by simpa using hp (i + 1) b (by simpa using hi))
    obtain ⟨e', h1, h2⟩ := hp 0 op rfl
    have e1 : e = e' := by simpa using h1
    subst e1
    simp only [List.map_cons, List.sum_cons, Rows.uptoBulkAll]
    omega
set_option maxRecDepth 100000 in
theorem open_ops {r : Reach} {b0 : Nat} {v : Value} {d : DataW H} {p : List MemPlace} (hv : Value.okWide Tryd.prog w r b0 70 v) (h : DataW.Trod enc Tryd.prog w base (fun _ => true) held 70 v d p) :
    ∃ (A : Option Addr) (n c : Nat) (ops : List OpV), v = .slice A n c ∧ ops.length = n ∧ ((∀ op ∈ ops, op.bs.length ≤ 140737488351232) → ScriptAt w A ops) ∧ totF ops n ≤ Rows.uptoBulk d ∧ n ≤ Rows.uptoBulk d := by
  obtain ⟨A, n, c, rfl⟩ := okWide_slice Tryd.underlying70 hv
  obtain ⟨fuel, hf⟩ := h
  have c3 : Tryd.prog.cellsOf 74 = 3 := by kernel_rfl
  have cI : Tryd.prog.cellsOf 3 = 1 := by kernel_rfl
  have cB : Tryd.prog.cellsOf 22 = 1 := by kernel_rfl
  rcases open_slice Tryd.underlying70 hf with ⟨hcs, hx⟩ | ⟨a, len, cap, m, nn, D, Pl, hcs, _, hl, hm, hmm, hx, hi⟩
  · simp [Value.cells] at hcs
    obtain ⟨rfl, rfl, rfl⟩ := hcs
    exact ⟨none, 0, 0, [], rfl, rfl, (fun _ k op hk => by simp at hk), by simp [totF], Nat.zero_le _⟩
  · simp [Value.cells] at hcs
    obtain ⟨rfl, rfl, rfl⟩ := hcs
    simp only [if_true] at hmm
    have hone : ∀ k, k < n → ∃ op : OpV, w.cell? (a.add (k * 3)) = some (.int .i64 op.kind) ∧ w.cell? (a.add (k * 3 + 1)) = some (.int .i64 op.who) ∧ w.cell? (a.add (k * 3 + 2)) = some (.slice op.A op.bs.length op.c) ∧ Rd w op.A op.bs.length (vb op.bs) ∧ IsBytes op.bs ∧ op.bs.length ≤ op.c ∧ op.bs.length ≤ Rows.uptoBulk (D k) := fun k hk => by
      obtain ⟨cs', hc, ht⟩ := hi k (by omega)
      rw [c3] at hc
      obtain ⟨_, hcl, hat⟩ := World.cells?_some hc
      obtain ⟨y0, y1, y2, n', hy, _, h0, h1, h2⟩ := trod_struct3 Tryd.underlying74 ht
      simp only [cI] at h0 h1
      simp only [cB] at h2
      match cs', hcl with
      | [x0, x1, x2], _ =>
        obtain ⟨z0, e0, _, _⟩ := DataW.trod_int Tryd.underlying3 h0
        obtain ⟨z1, e1, _, _⟩ := DataW.trod_int Tryd.underlying3 h1
        obtain rfl : x0 = .int .i64 z0 := by simpa using e0
        obtain rfl : x1 = .int .i64 z1 := by simpa using e1
        obtain ⟨A', c', bs, e2, r2, b2, l2, u2⟩ := open_bytes_cell h2
        obtain rfl : x2 = .slice A' bs.length c' := by simpa using e2
        refine ⟨⟨z0, z1, A', c', bs⟩, ?_, ?_, ?_, r2, b2, l2, ?_⟩
        · have := hat 0 (by omega)
          rw [add_add] at this
          simpa using this
        · have := hat 1 (by omega)
          rw [add_add] at this
          simpa using this
        · have := hat 2 (by omega)
          rw [add_add] at this
          simpa using this
        · have e3 : D k = .agg [y0.1, y1.1, y2.1] := by injection hy
          rw [e3]
          simp only [Rows.uptoBulk, Rows.uptoBulkAll]
          omega
    obtain ⟨f, hfun⟩ : ∃ f : Nat → OpV, ∀ k, k < n → w.cell? (a.add (k * 3)) = some (.int .i64 (f k).kind) ∧ w.cell? (a.add (k * 3 + 1)) = some (.int .i64 (f k).who) ∧ w.cell? (a.add (k * 3 + 2)) = some (.slice (f k).A (f k).bs.length (f k).c) ∧ Rd w (f k).A (f k).bs.length (vb (f k).bs) ∧ IsBytes (f k).bs ∧ (f k).bs.length ≤ (f k).c ∧ (f k).bs.length ≤ Rows.uptoBulk (D k) :=
      ⟨fun k => if hk : k < n then Classical.choose (hone k hk) else ⟨0, 0, none, 0, []⟩, fun k hk => by
        simp only [hk, dif_pos]
        exact Classical.choose_spec (hone k hk)⟩
    have hat : ∀ (k : Nat) (op : OpV), ((List.range n).map f)[k]? = some op → k < n ∧ op = f k := fun k op hk => by
      have hkn : k < n := by
        have := (List.getElem?_eq_some_iff.1 hk).1
        simpa using this
      exact ⟨hkn, by simpa [hkn] using hk.symm⟩
    refine ⟨some a, n, c, (List.range n).map f, rfl, by simp, fun hbig k op hk => ?_, ?_, ?_⟩
    · obtain ⟨hkn, rfl⟩ := hat k op hk
      obtain ⟨h1, h2, h3, h4, h5, h6, h7⟩ := hfun k hkn
      have h0 := (hfun 0 (by omega)).1
      obtain ⟨g, o, spot⟩ := a
      have hs : spot = none := by simpa [Addr.add] using World.cell?_spot h0
      subst hs
      refine ⟨g, o, rfl, ?_, ?_, ?_, h4, h5, h6, hbig _ (by simp; exact ⟨k, hkn, rfl⟩)⟩
      · rw [add_at] at h1; exact h1
      · rw [add_at, ← Nat.add_assoc] at h2; exact h2
      · rw [add_at, ← Nat.add_assoc] at h3; exact h3
    · have e1 : totF ((List.range n).map f) n = (((List.range n).map f).map fun op => op.bs.length).sum := by
        unfold totF
        rw [List.take_of_length_le (by simp)]
      rw [e1]
      have h1 := bulk_ops ((List.range n).map D) ((List.range n).map f) (by simp) (fun i op hi => by
        obtain ⟨hkn, rfl⟩ := hat i op hi
        exact ⟨D i, by simp [hkn], (hfun i hkn).2.2.2.2.2.2⟩)
      have e2 : d = .slice ((List.range n).map D) ((List.range (m - n)).map fun j => D (n + j)) := by injection hx
      rw [e2]
      simp only [Rows.uptoBulk]
      omega
    · have e2 : d = .slice ((List.range n).map D) ((List.range (m - n)).map fun j => D (n + j)) := by injection hx
      have h1 := bulk_len ((List.range n).map D)
      rw [e2]
      simp only [Rows.uptoBulk]
      simp at h1
      omega
theorem ops_small {ops : List OpV} {n : Nat} (hl : ops.length = n) (h : totF ops n ≤ 1048576) : ∀ op ∈ ops, op.bs.length ≤ 140737488351232 := fun op hop => by
  obtain ⟨i, hi⟩ := List.mem_iff_getElem?.1 hop
  have h1 := totF_succ ops i op hi
  have h2 := totF_le ops (i + 1)
  rw [hl] at h2
  omega
end
end Go.Proofs.YtnlnbgjpbnjjfaaDoor
