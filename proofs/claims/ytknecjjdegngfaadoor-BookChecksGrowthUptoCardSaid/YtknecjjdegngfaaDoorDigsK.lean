/-
  ROWS OF DIGESTS: a slice whose elements are 32 cells each; reading one, appending, cutting.
-/
import Derived.Test.YtknecjjdegngfaaDoorMemK
import Derived.Test.YtknecjjdegngfaaDoorKit
set_option linter.unusedSimpArgs false
namespace Go.Aff
open Go Go.RowKit Go.Sha
/-- The cells of digests one behind the other. -/
def dg (ds : List (List Int)) : List Value := (ds.map vb).flatten
def IsDig (d : List Int) : Prop := d.length = 32 ∧ IsBytes d
def IsDigs (ds : List (List Int)) : Prop := ∀ d ∈ ds, IsDig d
theorem IsDigs.cons {d : List Int} {ds : List (List Int)} (h : IsDigs (d :: ds)) : IsDig d ∧ IsDigs ds := ⟨h d (by simp), fun x hx => h x (by simp [hx])⟩
theorem IsDigs.at_ {ds : List (List Int)} (h : IsDigs ds) {k : Nat} {d : List Int} (hk : ds[k]? = some d) : IsDig d := h d (List.mem_of_getElem? hk)
theorem IsDigs.take {ds : List (List Int)} (h : IsDigs ds) (k : Nat) : IsDigs (ds.take k) := fun d hd => h d (List.mem_of_mem_take hd)
theorem IsDigs.drop {ds : List (List Int)} (h : IsDigs ds) (k : Nat) : IsDigs (ds.drop k) := fun d hd => h d (List.mem_of_mem_drop hd)
theorem IsDigs.app {ds es : List (List Int)} (h : IsDigs ds) (h' : IsDigs es) : IsDigs (ds ++ es) := fun d hd => by
  rcases List.mem_append.1 hd with hd | hd
  · exact h d hd
  · exact h' d hd
theorem IsDig.one {d : List Int} (h : IsDig d) : IsDigs [d] := fun x hx => by rw [List.mem_singleton.1 hx]; exact h
theorem vb_length (d : List Int) : (vb d).length = d.length := by simp [vb]
theorem dg_nil : dg [] = [] := rfl
theorem dg_cons (d : List Int) (ds : List (List Int)) : dg (d :: ds) = vb d ++ dg ds := rfl
theorem dg_app (ds es : List (List Int)) : dg (ds ++ es) = dg ds ++ dg es := by simp [dg]
theorem dg_one (d : List Int) : dg [d] = vb d := by simp [dg]
theorem dg_length : ∀ {ds : List (List Int)}, IsDigs ds → (dg ds).length = ds.length * 32
  | [], _ => rfl
  | d :: ds, h => by
    have h2 := h.cons
    rw [dg_cons, List.length_append, vb_length, h2.1.1, dg_length h2.2, List.length_cons]
    omega
theorem dg_drop : ∀ {ds : List (List Int)} (k : Nat), IsDigs ds → (dg ds).drop (k * 32) = dg (ds.drop k)
  | _, 0, _ => by simp
  | [], k + 1, _ => by simp [dg]
  | d :: ds, k + 1, h => by
    have h2 := h.cons
    rw [dg_cons, List.drop_succ_cons, ← dg_drop k h2.2]
    have e : (k + 1) * 32 = (vb d).length + k * 32 := by rw [vb_length, h2.1.1]; omega
    rw [e, List.drop_append]
    simp
theorem dg_take : ∀ {ds : List (List Int)} (k : Nat), IsDigs ds → (dg ds).take (k * 32) = dg (ds.take k)
  | _, 0, _ => by simp [dg]
  | [], k + 1, _ => by simp [dg]
  | d :: ds, k + 1, h => by
    have h2 := h.cons
    rw [dg_cons, List.take_succ_cons, dg_cons, ← dg_take k h2.2]
    have e : (k + 1) * 32 = (vb d).length + k * 32 := by rw [vb_length, h2.1.1]; omega
    rw [e, List.take_length_add_append]
theorem dg_one_cell (ds : List (List Int)) : ∀ u ∈ dg ds, u.oneCell' = true := by
  intro u hu
  simp only [dg, List.mem_flatten, List.mem_map] at hu
  obtain ⟨l, ⟨d, _, rfl⟩, hu⟩ := hu
  simp only [vb, List.mem_map] at hu
  obtain ⟨x, _, rfl⟩ := hu
  rfl
/-- What buildSlice writes: a part's cells one by one. -/
theorem fold_zip (vs : List Value) : ∀ (k : Nat) (cs : Array Value), k + vs.length ≤ cs.size → List.foldl (fun (cs : Array Value) (x : Value × Nat) => cs.setIfInBounds x.snd x.fst) cs (vs.zipIdx k) = (cs.toList.take k ++ vs ++ cs.toList.drop (k + vs.length)).toArray := by
  induction vs with
  | nil => intro k cs h; simp
  | cons v vs ih =>
    intro k cs h
    simp only [List.length_cons] at h
    rw [List.zipIdx_cons, List.foldl_cons, ih (k + 1) _ (by simp; omega)]
    have hk : k < cs.toList.length := by simp; omega
    simp only [Array.toList_setIfInBounds]
    congr 1
    have e1 : (cs.toList.set k v).take (k + 1) = cs.toList.take k ++ [v] := by
      rw [List.take_add_one, List.getElem?_set_self hk, List.take_set_of_le (Nat.le_refl k)]
      rfl
    have e2 : (cs.toList.set k v).drop (k + 1 + vs.length) = cs.toList.drop (k + (vs.length + 1)) := by
      rw [List.drop_set_of_lt (by omega)]
      congr 1
      omega
    rw [e1, e2]
    simp
theorem fold_zip0 (vs : List Value) (cs : Array Value) (h : cs.size = vs.length) : List.foldl (fun (cs : Array Value) (x : Value × Nat) => cs.setIfInBounds x.snd x.fst) cs vs.zipIdx = vs.toArray := by
  have := fold_zip vs 0 cs (by omega)
  rw [this, List.drop_eq_nil_of_le (by simp; omega)]
  simp
/-- A row of digests that is read. -/
def RdD (w : World) (A : Option Addr) (n : Nat) (ds : List (List Int)) : Prop := ds.length = n ∧ IsDigs ds ∧ Rd w A (n * 32) (dg ds)
section
variable {w w' : World} {A : Option Addr} {n : Nat} {ds : List (List Int)} {F : Nat → Prop}
theorem RdD.nil (w : World) (A : Option Addr) : RdD w A 0 [] := ⟨rfl, fun _ h => by simp at h, Rd.nil w A⟩
theorem RdD.keep (h : RdD w A n ds) (hk : Keeps F w w') (ho : Out F A n) : RdD w' A n ds := ⟨h.1, h.2.1, h.2.2.keep hk (fun hn ad e => ho (by omega) ad e)⟩
theorem RdD.alloc (h : RdD w A n ds) (o : Obj) : RdD (w.alloc o) A n ds := ⟨h.1, h.2.1, h.2.2.alloc o⟩
theorem RdD.lies (h : RdD w A n ds) {k : Nat} (hk : k < n) : ∃ g o d, A = some ⟨g, o, none⟩ ∧ ds[k]? = some d ∧ Lies w g (o + k * 32) (vb d) := by
  obtain ⟨hl, hd, hr⟩ := h
  obtain ⟨g, o, rfl, hc⟩ := hr.2 (by omega)
  obtain ⟨d, hdk⟩ : ∃ d, ds[k]? = some d := ⟨_, List.getElem?_eq_getElem (by omega)⟩
  refine ⟨g, o, d, rfl, hdk, fun j hj => ?_⟩
  have h32 := (hd.at_ hdk).1
  rw [vb_length, h32] at hj
  rw [Nat.add_assoc, hc (k * 32 + j) (by omega), ← List.getElem?_drop, dg_drop k hd]
  have e : ds.drop k = d :: ds.drop (k + 1) := by
    have hk' : k < ds.length := by omega
    rw [List.drop_eq_getElem_cons hk']
    rw [List.getElem?_eq_getElem hk'] at hdk
    injection hdk with hdk
    rw [hdk]
  rw [e, dg_cons, List.getElem?_append_left (by rw [vb_length, h32]; exact hj)]
theorem RdD.take (h : RdD w A n ds) {k : Nat} (hk : k ≤ n) : RdD w A k (ds.take k) := by
  have h2 := h.2.2.take (k := k * 32) (by omega)
  rw [dg_take k h.2.1] at h2
  exact ⟨by rw [List.length_take, h.1]; omega, h.2.1.take k, h2⟩
/-- The address of what is left behind the first k. -/
def cutD (A : Option Addr) (c k : Nat) : Option Addr := if c = k then A else A.map (·.add (k * 32))
theorem RdD.cut (h : RdD w A n ds) {k c : Nat} (hk : k ≤ n) (hc : n ≤ c) : RdD w (cutD A c k) (n - k) (ds.drop k) := by
  have h2 := h.2.2.cut (k := k * 32) (cap := c * 32) (by omega) (by omega)
  rw [dg_drop k h.2.1] at h2
  refine ⟨by rw [List.length_drop, h.1], h.2.1.drop k, ?_⟩
  have e : cutD A c k = if c * 32 = k * 32 then A else A.map (·.add (k * 32)) := by
    unfold cutD
    by_cases hck : c = k
    · rw [if_pos hck, if_pos (by omega)]
    · rw [if_neg hck, if_neg (by omega)]
  rw [e, show (n - k) * 32 = n * 32 - k * 32 by omega]
  exact h2
theorem RdD.of_own {base : Nat} {e : TypeId} {c : Nat} (h : w.ownsRow base e 32 (.slice A n c) n (dg ds)) (hd : IsDigs ds) (hn : ds.length = n) : RdD w A n ds := by
  refine ⟨hn, hd, ?_, fun hpos => ?_⟩
  · rw [dg_length hd, hn]
  · rcases h.2 with ⟨_, hn0⟩ | ⟨g, cap, cur, hv, _, _, _, _⟩
    · omega
    · injection hv with e1 e2 e3
      subst e1
      refine ⟨g, 0, rfl, fun j hj => ?_⟩
      have hj' : j < (dg ds).length := by rw [dg_length hd]; omega
      have := h.cells (g := g) rfl j _ (List.getElem?_eq_getElem hj')
      rw [List.getElem?_eq_getElem hj', Nat.zero_add]
      rw [add_at, Nat.zero_add] at this
      exact this
end
/-- A row of digests of the call's own, newer than w. -/
def MineD (w wr : World) (e : TypeId) (A : Option Addr) (m c : Nat) (ds : List (List Int)) : Prop :=
  wr.ownsRow 0 e 32 (.slice A m c) m (dg ds) ∧ IsDigs ds ∧ ds.length = m ∧ Keeps (fun _ => False) w wr ∧ ∀ g, (Value.slice A m c).ownBlock = some g → w.heap.size ≤ g
theorem MineD.nil (w : World) (e : TypeId) : MineD w w e none 0 0 [] := ⟨World.ownsRow_nil w 0 e 32, fun _ h => by simp at h, rfl, Keeps.refl _ w, fun g h => by simp [Value.ownBlock] at h⟩
theorem MineD.rd {w wr : World} {e : TypeId} {A : Option Addr} {m c : Nat} {ds : List (List Int)} (h : MineD w wr e A m c ds) : RdD wr A m ds := RdD.of_own h.1 h.2.1 h.2.2.1
theorem MineD.keep {w wr w' : World} {e : TypeId} {A : Option Addr} {m c : Nat} {ds : List (List Int)} (h : MineD w wr e A m c ds) (hk : Keeps (fun _ => False) wr w') : MineD w w' e A m c ds :=
  ⟨hk.own h.1 (fun _ _ h => h), h.2.1, h.2.2.1, h.2.2.2.1.trans hk (fun _ _ h => h), h.2.2.2.2⟩
/-- append(s, x...) of digests. -/
theorem wpList_append_dig {P : Program} (w0 w : World) {ops : Array Oper} {rest : List Oper} {o : Oper} {a : Act} {Q : Exit → Act → World → Prop} (hgd : o.guard = none) (s x : Operand) (t : TypeId)
    (ho : o.op = .call { callee := .builtin .append, args := #[s, x], argTypes := #[t, t] })
    (e : TypeId) (z : Value) (ht : P.underlying t = some (.slice e)) (hinfo : (P.info? e).map (fun i => (i.zero, i.size, i.bytes)) = some (some z, 32, 32)) (hzs : z.cells.size = 32)
    (A0 : Option Addr) (n c0 : Nat) (ds : List (List Int)) (hs : a.eval s = .slice A0 n c0) (hown : MineD w0 w e A0 n c0 ds)
    (A : Option Addr) (m c : Nat) (news : List (List Int)) (hx : a.eval x = .slice A m c) (hr : RdD w A m news)
    (hbytes : n + m ≤ 4398046511103)
    (h : ∀ A' c' w', MineD w0 w' e A' (n + m) c' (ds ++ news) → w.grownBy w' (Value.slice A0 n c0).ownBlock → ((Value.slice A' (n + m) c').ownBlock = (Value.slice A0 n c0).ownBlock ∨ (Value.slice A' (n + m) c').ownBlock = some w.heap.size) → wpList P ops Q rest (a.put o.dst (.slice A' (n + m) c')) w') :
    wpList P ops Q (o :: rest) a w := by
  obtain ⟨i, hi, hzi⟩ := Option.map_eq_some_iff.1 hinfo
  simp only [Prod.mk.injEq] at hzi
  obtain ⟨hz, hsz, hby⟩ := hzi
  obtain ⟨ho1, ho2, ho3, ho4, ho5⟩ := hown
  have fin : ∀ A' c' w', w'.ownsRow 0 e 32 (.slice A' (n + m) c') (n + m) (dg ds ++ dg news) → w.grownBy w' (Value.slice A0 n c0).ownBlock → ((Value.slice A' (n + m) c').ownBlock = (Value.slice A0 n c0).ownBlock ∨ (Value.slice A' (n + m) c').ownBlock = some w.heap.size) → wpList P ops Q rest (a.put o.dst (.slice A' (n + m) c')) w' := by
    intro A' c' w' k1 k2 k3
    refine h A' c' w' ⟨by rw [dg_app]; exact k1, ho2.app hr.2.1, by rw [List.length_append, ho3, hr.1], ?_, ?_⟩ k2 k3
    · refine ho4.trans (Keeps.of_grown k2) (fun g hg hb => ?_)
      have := ho5 g hb
      omega
    · intro g hg
      rcases k3 with k3 | k3
      · exact ho5 g (k3 ▸ hg)
      · rw [k3] at hg
        injection hg with hg
        have := ho4.size
        omega
  rcases A with _ | ad
  · have hm : m = 0 := by
      rcases Nat.eq_zero_or_pos m with h0 | h0
      · exact h0
      · obtain ⟨g, o, e1, _⟩ := hr.2.2.2 (by omega)
        cases e1
    subst hm
    have hn : news = [] := List.eq_nil_of_length_eq_zero hr.1
    subst hn
    refine wpList_plain hgd fun K hK => ?_
    have hrun : (Builtin.append_ #[t, t] o.type #[.slice A0 n c0, .slice none 0 c]).run P w = .ok (.slice A0 n c0) w := by
      rcases ho1.2 with ⟨hv, hn0⟩ | ⟨g, cap, cur, hv, _, _, hnc, _⟩
      · injection hv with e1 e2 e3
        subst e1 e2 e3
        simp [Builtin.append_, run_underlying ht, sizeOf, typeInfo, hi, Builtin.lenOf, Builtin.firstCells]
      · injection hv with e1 e2 e3
        subst e1 e3
        simp [Builtin.append_, run_underlying ht, sizeOf, typeInfo, hi, Builtin.lenOf, Builtin.firstCells, hnc, storeCells]
    unfold Oper.wp execOp
    simp only [ho, resolve, invoke, builtin, Sem.run_bind, Sem.run_pure, Result.andThen_ok, List.map_toArray, List.map_cons, List.map_nil, hs, hx, hrun]
    have := fin A0 c0 w (by simpa [dg_nil] using ho1) (World.grownBy.refl w _) (.inl rfl)
    exact hK _ _ this
  · have hcells : ∀ j u, (dg news)[j]? = some u → w.cell? (ad.add j) = some u := by
      intro j u hu
      have hj : j < (dg news).length := (List.getElem?_eq_some_iff.1 hu).1
      have hl := dg_length hr.2.1
      have hl2 := hr.1
      obtain ⟨g, o, e1, hc⟩ := hr.2.2.2 (by omega)
      injection e1 with e1
      subst e1
      rw [add_at, hc j (by omega), hu]
    refine wpList_append_own_at w hgd s x t ho 0 e i z 32 32 ht hi hz hsz hby hzs (by omega) (.slice A0 n c0) n (dg ds) hs ho1 ad m c (dg news) hx (by rw [dg_length hr.2.1, hr.1]) hcells (dg_one_cell news) (by simp only [maxLen]; omega) (by omega) (by omega) fun v' w' h2 h3 _ h5 => ?_
    obtain ⟨A', c', rfl⟩ := own_shape h2
    exact fin A' c' w' h2 h3 h5
section
variable {P : Program} {T e : TypeId}
theorem size_dig (hu : P.underlying T = some (.slice e)) (hz : (P.info? e).map (·.size) = some 32) (w : World) : (sizeOf (P.elem T)).run P w = .ok 32 w := by
  rw [elem_of hu]
  obtain ⟨i, hi, hs⟩ := Option.map_eq_some_iff.1 hz
  simp [sizeOf, typeInfo, hi, hs]
theorem cutD_l (hu : P.underlying T = some (.slice e)) (hz : (P.info? e).map (·.size) = some 32) (A : Option Addr) (n c l : Nat) (li : Int) (hli : li = l) (h1 : l ≤ n) (w : World) :
    (Instr.sliceAt T (.slice A n c) (some (.int .i64 li)) none none).run P w = .ok (.slice (cutD A c l) (n - l) (c - l)) w := by
  subst hli
  have hu' : P.underlying T = some (.slice (P.elem T)) := by rw [elem_of hu]; exact hu
  rw [run_sliceAt_slice w T _ _ _ _ hu', run_slice_l w T A n c hu' .i64 l (by omega) (by omega), size_dig hu hz]
  simp [sliced, cutD]
theorem cutD_h (hu : P.underlying T = some (.slice e)) (hz : (P.info? e).map (·.size) = some 32) (A : Option Addr) (n c h : Nat) (hi : Int) (hhi : hi = h) (h2 : h ≤ c) (w : World) :
    (Instr.sliceAt T (.slice A n c) none (some (.int .i64 hi)) none).run P w = .ok (.slice (cutD A c 0) h c) w := by
  subst hhi
  have hu' : P.underlying T = some (.slice (P.elem T)) := by rw [elem_of hu]; exact hu
  rw [run_sliceAt_slice w T _ _ _ _ hu', run_slice_h w T A n c hu' .i64 h (by omega) (by omega), size_dig hu hz]
  simp [sliced, cutD]
theorem cutD_hm (hu : P.underlying T = some (.slice e)) (hz : (P.info? e).map (·.size) = some 32) (A : Option Addr) (n c h : Nat) (hi mi : Int) (hhi : hi = h) (hmi : mi = h) (h2 : h ≤ c) (w : World) :
    (Instr.sliceAt T (.slice A n c) none (some (.int .i64 hi)) (some (.int .i64 mi))).run P w = .ok (.slice (cutD A h 0) h h) w := by
  subst hhi hmi
  have hu' : P.underlying T = some (.slice (P.elem T)) := by rw [elem_of hu]; exact hu
  rw [run_sliceAt_slice w T _ _ _ _ hu', run_slice_hm w T A n c hu' .i64 .i64 h h (by omega) (by omega) (by omega), size_dig hu hz]
  simp [sliced, cutD]
theorem RdD.cutHM {w : World} {A : Option Addr} {n : Nat} {ds : List (List Int)} (h : RdD w A n ds) {k : Nat} (hk : k ≤ n) : RdD w (cutD A k 0) k (ds.take k) := by
  have := (h.take hk).cut (k := 0) (c := k) (by omega) (Nat.le_refl _)
  simpa using this
end
end Go.Aff
