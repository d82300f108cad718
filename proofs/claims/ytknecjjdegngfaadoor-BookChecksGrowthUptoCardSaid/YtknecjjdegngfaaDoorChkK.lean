/-
  What the two laws of checks share in drawn regions.
-/
import Derived.Test.YtknecjjdegngfaaDoorSettledW
import Derived.Test.YtknecjjdegngfaaDoorExcuseW
import Derived.Test.YtknecjjdegngfaaDoorRowsRW
import Derived.Test.YtknecjjdegngfaaDoorProveW
set_option linter.unusedSimpArgs false
namespace Go.Proofs.YtknecjjdegngfaaDoor
open Go Go.RowKit Go.Sha Go.Aff Go.Book
theorem range_get {C : List Value} {o : Nat} {k j : Nat} {v : Value} (h : ((C.drop o).take k)[j]? = some v) : C[o + j]? = some v := by
  rw [List.getElem?_take] at h
  split at h
  · rwa [List.getElem?_drop] at h
  · cases h
/-- make([]Digest, 0, n), within a region that draws its order. -/
theorem step_make_dig {P : Program} {Q : Exit → Act → World → Prop} {K : Act → World → Prop} {ops : Array Oper} {a : Act} {o : Oper} (w0 w : World) (hg : o.guard = none) (l c : Operand) (t : TypeId) (hop : o.op = Op.makeSlice t l c)
    (e : TypeId) (z : Value) (ht : P.underlying t = some (.slice e)) (hinfo : (P.info? e).map (fun i => (i.zero, i.size, i.bytes)) = some (some z, 32, 32))
    (kl kc : IntKind) (C : Int) (n : Nat) (hl : a.eval l = .int kl 0) (hc : a.eval c = .int kc C) (hC : C = (n : Int)) (b2 : n ≤ 4398046511104) (hk : Keeps (fun _ => False) w0 w)
    (hK : ∀ A' w', MineD w0 w' e A' 0 n [] → K (a.put o.dst (.slice A' 0 n)) w') :
    if Region.wanted o (yielded ops a.tmps) = true then Oper.wp P o a w K Q else K (a.put o.dst undef) w := by
  have hw : Region.wanted o (yielded ops a.tmps) = true := by simp [Region.wanted, hg]
  rw [if_pos hw]
  obtain ⟨i, h2, h3, h4, h5⟩ := info_parts hinfo
  obtain ⟨w', hrun, r1, r2⟩ := run_make_own (P := P) w 0 t e i z 32 ht h2 h3 h4 kl kc n (by rw [h5]; omega) (by simp only [maxLen]; omega) (Nat.zero_le _)
  subst hC
  unfold Oper.wp
  simp only [execOp, hop, hl, hc, Sem.run_bind, Sem.run_pure, hrun, Result.andThen_ok]
  refine hK _ w' ⟨r1, fun _ h => by simp at h, rfl, hk.trans (Keeps.of_grown r2) (fun g _ hb => by simp at hb), ?_⟩
  intro g hg
  have e1 : some w.heap.size = some g := hg
  injection e1 with e1
  have := hk.size
  omega
/-- append of digests, likewise. -/
theorem step_append_dig {P : Program} {Q : Exit → Act → World → Prop} {K : Act → World → Prop} {ops : Array Oper} {a : Act} {o : Oper} (w0 w : World) (hgd : o.guard = none) (s x : Operand) (t : TypeId)
    (ho : o.op = .call { callee := .builtin .append, args := #[s, x], argTypes := #[t, t] })
    (e : TypeId) (z : Value) (ht : P.underlying t = some (.slice e)) (hinfo : (P.info? e).map (fun i => (i.zero, i.size, i.bytes)) = some (some z, 32, 32)) (hzs : z.cells.size = 32)
    (A0 : Option Addr) (n c0 : Nat) (ds : List (List Int)) (hs : a.eval s = .slice A0 n c0) (hown : MineD w0 w e A0 n c0 ds)
    (A : Option Addr) (m c : Nat) (news : List (List Int)) (hx : a.eval x = .slice A m c) (hr : RdD w A m news)
    (hbytes : n + m ≤ 4398046511103)
    (h : ∀ A' c' w', MineD w0 w' e A' (n + m) c' (ds ++ news) → w.grownBy w' (Value.slice A0 n c0).ownBlock → ((Value.slice A' (n + m) c').ownBlock = (Value.slice A0 n c0).ownBlock ∨ (Value.slice A' (n + m) c').ownBlock = some w.heap.size) → K (a.put o.dst (.slice A' (n + m) c')) w') :
    if Region.wanted o (yielded ops a.tmps) = true then Oper.wp P o a w K Q else K (a.put o.dst undef) w := by
  obtain ⟨i, hi, hzi⟩ := Option.map_eq_some_iff.1 hinfo
  simp only [Prod.mk.injEq] at hzi
  obtain ⟨hz, hsz, hby⟩ := hzi
  obtain ⟨ho1, ho2, ho3, ho4, ho5⟩ := hown
  have fin : ∀ A' c' w', w'.ownsRow 0 e 32 (.slice A' (n + m) c') (n + m) (dg ds ++ dg news) → w.grownBy w' (Value.slice A0 n c0).ownBlock → ((Value.slice A' (n + m) c').ownBlock = (Value.slice A0 n c0).ownBlock ∨ (Value.slice A' (n + m) c').ownBlock = some w.heap.size) → K (a.put o.dst (.slice A' (n + m) c')) w' := by
    intro A' c' w' k1 k2 k3
    refine h A' c' w' ⟨by rw [dg_app]; exact k1, ho2.app hr.2.1, by rw [List.length_append, ho3, hr.1], ?_, ?_⟩ k2 k3
    · refine ho4.trans (Keeps.of_grown k2) (fun g hg hb => ?_)
      have := ho5 g hb
      omega
    · intro g hg
      rcases k3 with k3 | k3
      · exact ho5 g (k3 ▸ hg)
      · rw [k3] at hg
        injection hg with hg
        have := ho4.size
        omega
  rcases A with _ | ad
  · have hm : m = 0 := by
      rcases Nat.eq_zero_or_pos m with h0 | h0
      · exact h0
      · obtain ⟨g, o, e1, _⟩ := hr.2.2.2 (by omega)
        cases e1
    subst hm
    have hn : news = [] := List.eq_nil_of_length_eq_zero hr.1
    subst hn
    have hw : Region.wanted o (yielded ops a.tmps) = true := by simp [Region.wanted, hgd]
    rw [if_pos hw]
    have hrun : (Builtin.append_ #[t, t] o.type #[.slice A0 n c0, .slice none 0 c]).run P w = .ok (.slice A0 n c0) w := by
      rcases ho1.2 with ⟨hv, hn0⟩ | ⟨g, cap, cur, hv, _, _, hnc, _⟩
      · injection hv with e1 e2 e3
        subst e1 e2 e3
        simp [Builtin.append_, run_underlying ht, sizeOf, typeInfo, hi, Builtin.lenOf, Builtin.firstCells]
      · injection hv with e1 e2 e3
        subst e1 e3
        simp [Builtin.append_, run_underlying ht, sizeOf, typeInfo, hi, Builtin.lenOf, Builtin.firstCells, hnc, storeCells]
    unfold Oper.wp execOp
    simp only [ho, resolve, invoke, builtin, Sem.run_bind, Sem.run_pure, Result.andThen_ok, List.map_toArray, List.map_cons, List.map_nil, hs, hx, hrun]
    exact fin A0 c0 w (by simpa [dg_nil] using ho1) (World.grownBy.refl w _) (.inl rfl)
  · have hcells : ∀ j u, (dg news)[j]? = some u → w.cell? (ad.add j) = some u := by
      intro j u hu
      have hj : j < (dg news).length := (List.getElem?_eq_some_iff.1 hu).1
      have hl := dg_length hr.2.1
      have hl2 := hr.1
      obtain ⟨g, o, e1, hc⟩ := hr.2.2.2 (by omega)
      injection e1 with e1
      subst e1
      rw [add_at, hc j (by omega), hu]
    exact step_append_own hgd s x t ho e z 32 32 ht hinfo hzs (by omega) A0 n c0 (dg ds) hs ho1 ad m c (dg news) hx (by rw [dg_length hr.2.1, hr.1]) hcells (dg_one_cell news) (by simp only [maxLen]; omega) (by omega) fin
/-- append of an operation with a guard that says yes. -/
theorem step_append_own_g {P : Program} {Q : Exit → Act → World → Prop} {K : Act → World → Prop} {ops : Array Oper} {a : Act} {w : World} {o : Oper} (hw : Region.wanted o (yielded ops a.tmps) = true) (s x : Operand) (t : TypeId)
    (ho : o.op = .call { callee := .builtin .append, args := #[s, x], argTypes := #[t, t] })
    (e : TypeId) (z : Value) (size bytes : Nat) (ht : P.underlying t = some (.slice e)) (hinfo : (P.info? e).map (fun i => (i.zero, i.size, i.bytes)) = some (some z, size, bytes)) (hzs : z.cells.size = size) (hsz : 0 < size)
    (B : Option Addr) (n d : Nat) (xs : List Value) (hs : a.eval s = .slice B n d) (hown : w.ownsRow 0 e size (.slice B n d) n xs)
    (ad : Addr) (m c : Nat) (news : List Value) (hx : a.eval x = .slice (some ad) m c) (hl : news.length = m * size) (hnews : ∀ j u, news[j]? = some u → w.cell? (ad.add j) = some u) (h1 : ∀ u ∈ news, u.oneCell' = true)
    (h63 : n + m ≤ maxLen) (hbytes : (n + m) * bytes ≤ 140737488355328)
    (h : ∀ A' c' w', w'.ownsRow 0 e size (.slice A' (n + m) c') (n + m) (xs ++ news) → w.grownBy w' (Value.slice B n d).ownBlock → ((Value.slice A' (n + m) c').ownBlock = (Value.slice B n d).ownBlock ∨ (Value.slice A' (n + m) c').ownBlock = some w.heap.size) → K (a.put o.dst (.slice A' (n + m) c')) w') :
    if Region.wanted o (yielded ops a.tmps) = true then Oper.wp P o a w K Q else K (a.put o.dst undef) w := by
  rw [if_pos hw]
  obtain ⟨i, hi, hzi⟩ := Option.map_eq_some_iff.1 hinfo
  simp only [Prod.mk.injEq] at hzi
  obtain ⟨hz, hsz', hby⟩ := hzi
  obtain ⟨v', w', hr, h2, h3, _, h5⟩ := run_append_own_at (P := P) w 0 t o.type e i z size bytes ht hi hz hsz' hby hzs hsz (.slice B n d) n xs hown ad m c news hl hnews h1 h63 hbytes (Nat.zero_le _)
  obtain ⟨A', c', rfl⟩ := own_shape h2
  unfold Oper.wp execOp
  simp only [ho, resolve, invoke, builtin, Sem.run_bind, Sem.run_pure, Result.andThen_ok, List.map_toArray, List.map_cons, List.map_nil, hs, hx, hr]
  exact h A' c' w' h2 h3 h5
theorem step_append_rows_g {P : Program} {Q : Exit → Act → World → Prop} {K : Act → World → Prop} {ops : Array Oper} {a : Act} {v : World} {o : Oper} (w wr : World) (hgd : Region.wanted o (yielded ops a.tmps) = true) (s x : Operand) (t : TypeId)
    (ho : o.op = .call { callee := .builtin .append, args := #[s, x], argTypes := #[t, t] })
    (T : TypeId) (z : Value) (ht : P.underlying t = some (.slice T)) (hinfo : (P.info? T).map (fun i => (i.zero, i.size, i.bytes)) = some (some z, 1, 24)) (hzs : z.cells.size = 1)
    (B : Option Addr) (n d : Nat) (rs : List (List Int)) (hs : a.eval s = .slice B n d) (hP : MineP w wr T B n d rs) (hkv : Keeps (fun _ => False) wr v)
    (ad : Addr) (m c : Nat) (nr : List (List Int)) (nv : List Value) (hx : a.eval x = .slice (some ad) m c) (hl : nv.length = m) (hnews : ∀ j u, nv[j]? = some u → v.cell? (ad.add j) = some u) (hne : ElemsR wr v (fun _ => False) nr nv)
    (h1 : ∀ u ∈ nv, u.oneCell' = true) (hbytes : n + m ≤ 4398046511103)
    (h : ∀ B' c' v', MineP w v' T B' (n + m) c' (rs ++ nr) → v.grownBy v' (Value.slice B n d).ownBlock → K (a.put o.dst (.slice B' (n + m) c')) v') :
    if Region.wanted o (yielded ops a.tmps) = true then Oper.wp P o a v K Q else K (a.put o.dst undef) v := by
  obtain ⟨hrl, vals, hm, he⟩ := hP
  refine step_append_own_g hgd s x t ho T z 1 24 ht hinfo hzs (by omega) B n d vals hs (own_keepA hm.1 hkv) ad m c nv hx (by omega) hnews h1 (by simp only [maxLen]; omega) (by omega) ?_
  intro B' c' v' hown hg hb
  exact h B' c' v' (MineP.grow hrl hm he hkv hne (by rw [← hl, hne.1]) hown hg hb) hg
end Go.Proofs.YtknecjjdegngfaaDoor
