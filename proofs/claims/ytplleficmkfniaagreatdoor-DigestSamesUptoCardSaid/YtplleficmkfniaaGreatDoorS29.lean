/- Texts. -/
import Derived.Test.YtplleficmkfniaaGreatDoorS28
set_option linter.unusedSimpArgs false
set_option maxRecDepth 100000
set_option maxHeartbeats 4000000
namespace Go.Dig
open Go Go.Sha Go.Aff Go.Json Go.Book Go.Mac
structure BesV where
 key : ByteArray
 value : List Int
 at_ : Int
 sides : List (List Int)
def BesOk (count : Int) (b : BesV) : Prop := rightS b.key = true ∧ 0 ≤ b.at_ ∧ b.at_ < count ∧ b.sides.length = manyN count.toNat b.at_.toNat
instance (count : Int) (b : BesV) : Decidable (BesOk count b) := inferInstanceAs (Decidable (_ ∧ _))
def rowOf : JV → List (List Int)
 | .list l => l.map fun x => x.dg
 | .obj ks l => memsD ks (l.map fun x => x.dg)
 | _ => []
end Go.Dig
namespace Go.Proofs.YtplleficmkfniaaGreatDoor
open Go Go.Sha Go.Aff Go.Json Go.Book Go.Mac Go.Dig
def rowEl (j : JV) (ky : ByteArray) (x : JV) : List Int := if j.sort = 6 then memD ky x.dg else x.dg
def txEl (j : JV) (ky : ByteArray) (x : JV) : List (List Int) := x.tx ++ (if j.sort = 6 then [memT ky x.dg] else [])
theorem rowEl_dig (j : JV) (ky : ByteArray) (x : JV) : IsDig (rowEl j ky x) := by
 unfold rowEl
 split
 ·exact ⟨hsh_len _, hsh_bytes _⟩
 ·exact ⟨dg_len _, dgv_bytes _⟩
def withN (j : JV) (k : Nat) : List (List Int) := ((List.range k).map fun i => match j.items[i]? with | some x => txEl j (keyAt j i) x | none => []).flatten
theorem withN_zero (j : JV) : withN j 0 = [] := rfl
theorem withN_snoc {j x : JV} {k : Nat} (h : j.items[k]? = some x) : withN j (k + 1) = withN j k ++ txEl j (keyAt j k) x := by
 unfold withN
 rw [List.range_succ, List.map_append, List.flatten_append]
 simp [h]
theorem rowEl_at {j x : JV} {k : Nat} (hs : j.sort = 5 ∨ j.sort = 6) (hkl : j.sort = 6 → j.keys.length = j.items.length) (h : j.items[k]? = some x) : (rowOf j)[k]? = some (rowEl j (keyAt j k) x) := by
 cases j with
 | list l =>
  show (l.map fun x => x.dg)[k]? = _
  have h2 : l[k]? = some x := h
  rw [List.getElem?_map, h2]
  rfl
 | obj ks l =>
  have h2 : l[k]? = some x := h
  have hk : k < ks.length := by have := hkl rfl; have := (List.getElem?_eq_some_iff.1 h2).1; show k < ks.length; have e : (JV.obj ks l).keys.length = ks.length := rfl; have e2 : (JV.obj ks l).items.length = l.length := rfl; omega
  have hky : ks[k]? = some (keyAt (.obj ks l) k) := by
   unfold keyAt
   show _ = some (ks.getD k _)
   rw [List.getD_eq_getElem?_getD, List.getElem?_eq_getElem hk]
   rfl
  exact memsD_at hky h2
 | null | flag | num | text => rcases hs with h | h <;> simp [JV.sort] at h
theorem row_snoc {j x : JV} {k : Nat} (hs : j.sort = 5 ∨ j.sort = 6) (hkl : j.sort = 6 → j.keys.length = j.items.length) (h : j.items[k]? = some x) : (rowOf j).take (k + 1) = (rowOf j).take k ++ [rowEl j (keyAt j k) x] := by
 rw [List.take_add_one, rowEl_at hs hkl h]; rfl
theorem row_len {j : JV} (hs : j.sort = 5 ∨ j.sort = 6) (hkl : j.sort = 6 → j.keys.length = j.items.length) : (rowOf j).length = j.items.length := by
 cases j with
 | list l => show (l.map fun x => x.dg).length = _; simp [JV.items]
 | obj ks l =>
  have h : ks.length = l.length := hkl rfl
  show (memsD ks (l.map fun x => x.dg)).length = _
  rw [memsD_len (by simpa using h)]
  simp [JV.items]
 | null | flag | num | text => rcases hs with h | h <;> simp [JV.sort] at h
theorem row_digs {j : JV} : IsDigs (rowOf j) := by
 cases j with
 | list l => intro d hd; obtain ⟨x, _, rfl⟩ := List.mem_map.1 hd; exact ⟨dg_len _, dgv_bytes _⟩
 | obj ks l => intro d hd; obtain ⟨p, _, rfl⟩ := List.mem_map.1 hd; exact ⟨hsh_len _, hsh_bytes _⟩
 | null | flag | num | text => intro d hd; cases hd
theorem flat_list : ∀ (l : List JV) (n : Nat), n = l.length → ((List.range n).map fun i => match l[i]? with | some x => x.tx | none => []) = l.map fun x => x.tx := by
 intro l n hn
 subst hn
 apply List.ext_getElem?
 intro i
 rw [List.getElem?_map, List.getElem?_map]
 rcases Nat.lt_or_ge i l.length with h | h
 ·rw [List.getElem?_range h, List.getElem?_eq_getElem h]
  simp [List.getElem?_eq_getElem h]
 ·rw [List.getElem?_eq_none (by simpa using h), List.getElem?_eq_none h]
  rfl
theorem tx_with {j : JV} (hs : j.sort = 5 ∨ j.sort = 6) (hkl : j.sort = 6 → j.keys.length = j.items.length) : j.tx = withN j j.items.length ++ allTx (rowOf j) ++ [grpT j.sort j.items.length (rowD (rowOf j))] := by
 cases j with
 | list l =>
  rw [JV.tx]
  show (l.map fun x => x.tx).flatten ++ _ ++ _ = _
  have e : withN (.list l) l.length = (l.map fun x => x.tx).flatten := by
   unfold withN
   rw [← flat_list l l.length rfl]
   congr 1
   apply List.map_congr_left
   intro i _
   show (match l[i]? with | some x => txEl (.list l) (keyAt (.list l) i) x | none => []) = _
   cases l[i]? with
   | none => rfl
   | some x => simp [txEl, JV.sort]
  show _ = withN (.list l) l.length ++ allTx (l.map fun x => x.dg) ++ [grpT 5 l.length (rowD (l.map fun x => x.dg))]
  rw [e]
 | obj ks l =>
  have hk : ks.length = l.length := hkl rfl
  rw [JV.tx]
  have e : withN (.obj ks l) l.length = ((ks.zip (l.map fun x => (x.tx, x.dg))).map fun p => p.2.1 ++ [memT p.1 p.2.2]).flatten := by
   unfold withN
   congr 1
   apply List.ext_getElem?
   intro i
   rw [List.getElem?_map, List.getElem?_map]
   rcases Nat.lt_or_ge i l.length with h | h
   ·have hz : (ks.zip (l.map fun x => (x.tx, x.dg)))[i]? = some (ks[i]'(by omega), (l[i].tx, l[i].dg)) := by
     rw [List.getElem?_zip_eq_some]
     exact ⟨List.getElem?_eq_getElem (by omega), by rw [List.getElem?_map, List.getElem?_eq_getElem h]; rfl⟩
    rw [List.getElem?_range h, hz]
    have h2 : (JV.obj ks l).items[i]? = some l[i] := List.getElem?_eq_getElem h
    simp only [Option.map_some, h2, txEl]
    have hky : keyAt (.obj ks l) i = ks[i]'(by omega) := by
     unfold keyAt
     show ks.getD i _ = _
     rw [List.getD_eq_getElem?_getD, List.getElem?_eq_getElem (show i < ks.length by omega)]
     rfl
    rw [hky]
    simp [JV.sort]
   ·rw [List.getElem?_eq_none (by simpa using h), List.getElem?_eq_none (by rw [List.length_zip, List.length_map]; omega)]
    rfl
  show _ = withN (.obj ks l) l.length ++ allTx (memsD ks (l.map fun x => x.dg)) ++ [grpT 6 l.length (rowD (memsD ks (l.map fun x => x.dg)))]
  rw [e]
 | null | flag | num | text => rcases hs with h | h <;> simp [JV.sort] at h
theorem dg_with {j : JV} (hs : j.sort = 5 ∨ j.sort = 6) : j.dg = grpD j.sort j.items.length (rowD (rowOf j)) := by
 cases j with
 | list l => rw [JV.dg]; rfl
 | obj ks l => rw [JV.dg]; rfl
 | null | flag | num | text => rcases hs with h | h <;> simp [JV.sort] at h
theorem withN_len (j : JV) : ∀ (k : Nat), k ≤ j.items.length → (withN j k).length ≤ 5 * sumN ((j.items.take k).map fun x => x.nodes)
 | 0, _ => by simp [withN]
 | k + 1, h => by
  have hx : j.items[k]? = some (j.items[k]'(by omega)) := List.getElem?_eq_getElem (by omega)
  rw [withN_snoc hx, List.length_append, List.take_add_one, hx]
  have ih := withN_len j k (by omega)
  have h1 := tx_few (j.items[k]'(by omega))
  simp only [Option.toList, List.map_append, sumN_append, List.map_cons, List.map_nil, sumN]
  unfold txEl
  split <;> simp only [List.length_append, List.length_cons, List.length_nil] <;> omega
theorem withN_room {j x : JV} {k : Nat} (h : j.items[k]? = some x) : (withN j k).length + 8 * x.nodes + 3 ≤ 8 * j.nodes := by
 have hk := (List.getElem?_eq_some_iff.1 h).1
 have h1 := withN_len j k (by omega)
 have h2 : sumN ((j.items.take k).map fun x => x.nodes) + x.nodes ≤ sumN (j.items.map fun x => x.nodes) := by
  conv => rhs; rw [← List.take_append_drop k j.items]
  rw [List.map_append, sumN_append, List.drop_eq_getElem_cons hk]
  rw [List.getElem?_eq_getElem hk] at h
  injection h with h
  rw [List.map_cons, sumN, h]
  omega
 rw [JV.nodes_eq j]
 omega
theorem withN_all (j : JV) : (withN j j.items.length).length + 5 ≤ 5 * j.nodes := by
 have h1 := withN_len j j.items.length (Nat.le_refl _)
 rw [List.take_length] at h1
 rw [JV.nodes_eq j]
 omega
end Go.Proofs.YtplleficmkfniaaGreatDoor
namespace Go.Aff
open Go Go.RowKit
section
variable {F : Fence} {n : Nat} {P : Program} {w : World} {g : Nat} {t : TypeId} {cs : List Value}
theorem wpListIn_store_whole {ops : Array Oper} {rest : List Oper} {o : Oper} {a : Act} {Q : Exit → Act → World → Prop} (hgd : o.guard = none) (ty : TypeId) (x v : Operand) (ho : o.op = .store ty x v)
  (vs : List Value) (hx : a.eval x = .pointer (some ⟨g, 0, none⟩)) (hv : a.eval v = .agg vs.toArray) (hg : Blk w g t cs) (hl : cs.length = vs.length) (hi : (P.info? ty).map (·.size) = some vs.length) (h1 : ∀ v ∈ vs, v.oneCell' = true)
  (h : wpListIn F n P ops Q rest (a.put o.dst undef) (w.setRow g vs.toArray)) : wpListIn F n P ops Q (o :: rest) a w := by
 refine wpListIn_plain hgd fun K hK => ?_
 unfold Oper.wpIn
 refine ⟨?_, ?_⟩
 ·simp [Oper.about, ho]
 ·rw [Oper.semAt_plain F _ _ (by rw [ho]; intro c hc'; cases hc')]
  unfold execOp
  simp only [ho, hx, hv, Instr.storeAt, Instr.sureAddr, Sem.run_bind, Sem.run_pure, Result.andThen_ok, run_storeVar_at ty 0 vs hg (by omega) hi h1]
  rw [splice_all _ _ hl]
  exact hK _ _ h
theorem wpListIn_load_whole {ops : Array Oper} {rest : List Oper} {o : Oper} {a : Act} {Q : Exit → Act → World → Prop} (hgd : o.guard = none) (ty : TypeId) (x : Operand) (ho : o.op = .load ty x)
  (d : TypeDesc) (hx : a.eval x = .pointer (some ⟨g, 0, none⟩)) (hg : Blk w g t cs)
  (hu : P.underlying ty = some d) (hd : (match d with | .struct _ | .array _ _ => true | _ => false) = true) (hi : (P.info? ty).map (·.size) = some cs.length)
  (h : wpListIn F n P ops Q rest (a.put o.dst (.agg cs.toArray)) w) : wpListIn F n P ops Q (o :: rest) a w := by
 refine wpListIn_plain hgd fun K hK => ?_
 unfold Oper.wpIn
 refine ⟨?_, ?_⟩
 ·simp [Oper.about, ho]
 ·rw [Oper.semAt_plain F _ _ (by rw [ho]; intro c hc'; cases hc')]
  unfold execOp
  have hr := run_loadVar_at (P := P) ty 0 cs.length d hg (by omega) hu hd hi
  simp only [ho, hx, Instr.loadAt, Instr.sureAddr, Sem.run_bind, Sem.run_pure, Result.andThen_ok, hr]
  exact hK _ _ (by simpa using h)
end
theorem wpListIn_append_S {F : Fence} {n : Nat} {P : Program} (w : World) {ops : Array Oper} {rest : List Oper} {o : Oper} {a : Act} {Q : Exit → Act → World → Prop}
  (hg : o.guard = none) (s x : Operand) (t : TypeId) (hop : o.op = Op.call { callee := Callee.builtin Builtin.append, args := #[s, x], argTypes := #[t, t] })
  (e : TypeId) (z : Value) (size bytes : Nat) (ht : P.underlying t = some (.slice e)) (hinfo : (P.info? e).map (fun i => (i.zero, i.size, i.bytes)) = some (some z, size, bytes)) (hzs : z.cells.size = size) (hsz : 0 < size)
  (B : Option Addr) (k d : Nat) (xs : List Value) (hs : a.eval s = .slice B k d) (hown : w.ownsRow 0 e size (.slice B k d) k xs)
  (ad : Addr) (m c : Nat) (news : List Value) (hx : a.eval x = .slice (some ad) m c) (hl : news.length = m * size) (hnews : ∀ j u, news[j]? = some u → w.cell? (ad.add j) = some u) (h1 : ∀ u ∈ news, u.oneCell' = true)
  (h63 : k + m ≤ maxLen) (hbytes : (k + m) * bytes ≤ 140737488355328)
  (hK : ∀ A' c' w', w'.ownsRow 0 e size (.slice A' (k + m) c') (k + m) (xs ++ news) → w.grownBy w' (Value.slice B k d).ownBlock → ((Value.slice A' (k + m) c').ownBlock = (Value.slice B k d).ownBlock ∨ (Value.slice A' (k + m) c').ownBlock = some w.heap.size) → wpListIn F n P ops Q rest (a.put o.dst (.slice A' (k + m) c')) w') :
  wpListIn F n P ops Q (o :: rest) a w := by
 refine wpListIn_plain hg fun K hK' => ?_
 obtain ⟨i, hi, hzi⟩ := Option.map_eq_some_iff.1 hinfo
 simp only [Prod.mk.injEq] at hzi
 obtain ⟨hz, hsz', hby⟩ := hzi
 obtain ⟨v', w', hr, h2, h3, _, h5⟩ := run_append_own_at (P := P) w 0 t o.type e i z size bytes ht hi hz hsz' hby hzs hsz (.slice B k d) k xs hown ad m c news hl hnews h1 h63 hbytes (Nat.zero_le _)
 obtain ⟨A', c', rfl⟩ := own_shape h2
 unfold Oper.wpIn
 refine ⟨?_, ?_⟩
 ·simp [Oper.about, hop, resolve, Target.leads, Sem.run_pure]
 ·rw [Oper.semAt_plain F _ _ (by rw [hop]; intro c hc'; cases hc')]
  simp [execOp, hop, resolve, invoke, builtin, hs, hx, hr, Result.andThen]
  exact hK' _ _ (hK A' c' w' h2 h3 h5)
end Go.Aff
namespace Go.Rng
open Go Go.RowKit Go.Aff
theorem wpIn_rangeFunc_nextH {α : Type} {P : Program} {n : Nat} {g : Operand} {ps : Array Tmp} {assign body : Code} {Q : Exit → Act → World → Prop} {a : Act} {w : World} (h1 : 1 ≤ n) {gf : Nat} {lb : Array Value}
  (hg : a.eval g = .func (.func gf) #[] lb) (eg : ∀ args w, (callFunc gf args).run P w = .ok (.enter gf args) w) {ok : List α → α → Prop} {encs : α → Array Value} {Kp : World → World → Prop} {S Sp : List α → Prop}
  (hseq : SeqNext ok Fence.wide (n - 1) P gf lb encs Kp S Sp w) (hKt : ∀ {A B C : World}, Kp A B → Kp B C → Kp A C)
  (hKb : ∀ (W : World) (l : Nat) (o o' : Obj), w.heap.size ≤ l → W.heap[l]? = some o → o.isCells = false → o.isWalk = false → Kp W (W.putObj l o')) (hps : ∀ x, (encs x).size = ps.size)
  (I : List α → World → Prop) (Ix : Code → List α → World → Prop) (hI : OwnFrom w.heap.size I) (hIx : ∀ c, OwnFrom w.heap.size (Ix c)) (h0 : I [] w) (Ax : α → Act → World → Prop) (hAx : ∀ x a', OwnFrom w.heap.size (fun (_ : Unit) W => Ax x a' W))
  (hassign : ∀ (l : Nat) (pre : List α) (x : α) (W : World) (K : Act → World → Prop), I pre W → (∀ a' W', KeepsFrom w.heap.size W W' → Kp W W' → I pre W' → Ax x a' W' → K a' W') → assign.wpIn (Fence.wide.inRound l) (n - 1 - 1) P (Exit.then K (fun _ _ _ => False)) { tmps := (ps.zip (encs x)).foldl (fun t (p, v) => t.setIfInBounds p v) a.tmps, defers := [] } W)
  (hbody : ∀ (l : Nat) (pre : List α) (x : α) (a' : Act) (W : World), I pre W → Ax x a' W → ok pre x → body.wpIn (Fence.wide.inRound l) (n - 1 - 1) P (ownPostG w.heap.size Kp I Ix (pre ++ [x]) W) a' W)
  (hdone : ∀ (D : Nat) (xs : List α) (W : World), w.heap.size ≤ D → S xs → I xs W → W.heap[D]? = some (.deferred (some [])) → Q .normal { a with defers := { target := .collected D, args := #[] } :: a.defers } W)
  (hstop : ∀ (D : Nat) (c : Code) (pre : List α) (W : World), w.heap.size ≤ D → Sp pre → Ix c pre W → W.heap[D]? = some (.deferred (some [])) → c.wpIn Fence.wide n P Q { a with defers := { target := .collected D, args := #[] } :: a.defers } W) :
  (Code.rangeFunc g ps assign body).wpIn Fence.wide n P Q a w := by
 refine wpIn_rangeFunc fun fn _ => ?_
 obtain ⟨r, hr⟩ : ∃ r : Loop, r = { state := .ready, pending := none, fn, tmps := a.tmps, params := ps, assign, body, defers := w.heap.size } := ⟨_, rfl⟩
 obtain ⟨W1, hW1⟩ : ∃ W1, W1 = (w.alloc (.deferred (some []))).alloc (.loop r) := ⟨_, rfl⟩
 have hst : Stands W1 w.heap.size r .ready none := by
  have h := Stands.new w r
  rw [hr] at h
  rw [hW1, hr]
  exact h
 have hsz : W1.heap.size = w.heap.size + 2 := by rw [hW1]; simp
 have hbel : Below w.heap.size w W1 := by rw [hW1]; exact ((Below.refl _ w).alloc (Nat.le_refl _) _).alloc (by simp) _
 refine ⟨w.heap.size + 1, [{ target := .collected w.heap.size, args := #[] }], W1, { target := .fn (.func gf) lb, args := #[.func (.yield (w.heap.size + 1)) #[] #[]] }, W1, gf, #[.func (.yield (w.heap.size + 1)) #[] #[]] ++ lb, W1, ?_, ?_, fun _ _ => trivial, ?_, fun _ => h1, ?_⟩
 ·rw [hW1, hr]
  exact run_enterLoop_outer _ _ _ _ _
 ·simp only [resolve, hg]
  simp [go_sem]
 ·simp [invoke, go_sem, eg]
 ·refine (hseq (w.heap.size + 1) (fun pre W => I pre W ∧ Stands W w.heap.size r .ready none) (fun pre W => ∃ c, Ix c pre W ∧ Stands W w.heap.size r .done (some c)) W1 hbel ?_ ?_ ?_ ⟨?_, hst⟩).mono ?_
  ·intro s A B row hs hgr hrow
   exact ⟨hI s A B row hs.1 hgr fun k e => ⟨by have := (hrow k e).1; omega, by obtain ⟨_, o, ho, hw⟩ := hrow k e; exact ⟨o, ho, Obj.not_cells_of_walk hw⟩⟩, hs.2.grown hgr fun k e => (hrow k e).2⟩
  ·rintro s A B row ⟨c, hc, hs⟩ hgr hrow
   exact ⟨c, hIx c s A B row hc hgr fun k e => ⟨by have := (hrow k e).1; omega, by obtain ⟨_, o, ho, hw⟩ := hrow k e; exact ⟨o, ho, Obj.not_cells_of_walk hw⟩⟩, hs.grown hgr fun k e => (hrow k e).2⟩
  ·rintro pre x W ⟨hi, hs⟩ hok
   have hy : (Instr.yield (w.heap.size + 1) (encs x)).run P W = .ok (.round (w.heap.size + 1) fn ((ps.zip (encs x)).foldl (fun t (p, v) => t.setIfInBounds p v) a.tmps) assign body) W := by
    have h := hs.rec_
    rw [hr] at h
    exact run_yield (P := P) (args := encs x) h (hps x)
   refine ⟨_, _, _, _, hy, roundIn_of_wpIn trivial (hassign _ pre x W _ hi ?_)⟩
   clear hy
   intro a' Wa hkfa hkpa hia hax
   replace hs := hs.from hkfa (Nat.le_refl _)
   revert hkpa
   generalize W = Wb
   obtain ⟨W, rfl⟩ : ∃ W, W = Wa := ⟨_, rfl⟩
   intro hkpa
   refine ⟨_, run_beginRound hs.rec_ rfl, ?_⟩
   have hs2 : Stands (W.putObj (w.heap.size + 1) (.loop { r with state := .busy, pending := none })) w.heap.size r .busy none := hs.turn
   have hk2 : Kp W (W.putObj (w.heap.size + 1) (.loop { r with state := .busy, pending := none })) := hKb _ _ _ _ (by omega) hs.rec_ rfl rfl
   refine wpIn_mono (hbody _ pre x a' _ (hI.putObj _ hia (by omega) hs.rec_ rfl) ((hAx x a').putObj (s := ()) _ hax (by omega) hs.rec_ rfl) hok) fun e a3 W3 hp => ?_
   cases e with
   | normal =>
    obtain ⟨hk3, hkp, hi3⟩ := hp
    have hs3 := hs2.from hk3 (Nat.le_refl _)
    exact ⟨_, _, run_endRound none hs3.rec_, .inl ⟨rfl, ⟨hI.putObj _ hi3 (by omega) hs3.rec_ rfl, hs3.turn⟩, hKt hkpa (hKt (hKt hk2 hkp) (hKb _ _ _ _ (by omega) hs3.rec_ rfl rfl))⟩⟩
   | ret =>
    have hs3 := hs2.from hp.1 (Nat.le_refl _)
    exact ⟨_, _, run_endRound (some .ret) hs3.rec_, .inr ⟨rfl, .ret, (hIx _).putObj _ hp.2 (by omega) hs3.rec_ rfl, hs3.turn⟩⟩
   | exit id =>
    have hs3 := hs2.from hp.1 (Nat.le_refl _)
    exact ⟨_, _, run_endRound (some (.exit id)) hs3.rec_, .inr ⟨rfl, .exit id, (hIx _).putObj _ hp.2 (by omega) hs3.rec_ rfl, hs3.turn⟩⟩
   | goto t =>
    have hs3 := hs2.from hp.1 (Nat.le_refl _)
    exact ⟨_, _, run_endRound (some (.goto t)) hs3.rec_, .inr ⟨rfl, .goto t, (hIx _).putObj _ hp.2 (by omega) hs3.rec_ rfl, hs3.turn⟩⟩
   | panic ch => exact hp.elim
   | outgrown => exact hp.elim
  ·rw [hW1]
   exact hI.alloc _ (hI.alloc _ h0)
  ·rintro e W2 ⟨⟨v, rfl⟩, h | h⟩
   ·obtain ⟨xs, hS, hi, hs⟩ := h
    exact ⟨_, _, run_endLoop hs.rec_ (by simp), hdone _ xs _ (Nat.le_refl _) hS (hI.putObj _ hi (by omega) hs.rec_ rfl) ((World.putObj_heap_other (by omega)).trans hs.defs)⟩
   ·obtain ⟨pre, hSp, c, hi, hs⟩ := h
    exact ⟨_, _, run_endLoop hs.rec_ (by simp), hstop _ c pre _ (Nat.le_refl _) hSp ((hIx c).putObj _ hi (by omega) hs.rec_ rfl) ((World.putObj_heap_other (by omega)).trans hs.defs)⟩
end Go.Rng
