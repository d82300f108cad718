/- Texts. -/
import Derived.Test.YtdmcioghdindfaaGreatDoorL37
set_option linter.unusedSimpArgs false
set_option maxRecDepth 100000
set_option maxHeartbeats 4000000
namespace Go.Json
def sortO (o : Option JV) : Int := match o with
 | none => 0
 | some j => j.sort
noncomputable def threeQ (o x y : Option JV) (r : Option JV × List ByteArray) : Option JV × List ByteArray := open Classical in if x = y ∨ y = o then (x, []) else if x = o then (y, []) else r
noncomputable def threeAt (o : Option JV) (x : Option (JV × (Option JV → Option JV → List ByteArray → Option JV × List ByteArray))) (y : Option JV) (way : List ByteArray) : Option JV × List ByteArray := match x with
 | none => threeQ o none y (none, [printB way])
 | some (_, f) => f o y way
noncomputable def JV.three : JV → Option JV → Option JV → List ByteArray → Option JV × List ByteArray
 | .obj kx lx => fun o y way =>
  let L := lx.map fun x => (x, x.three)
  let F := fun key => threeAt (atK (mem2 o).1 (mem2 o).2 key) (atK kx L key) (atK (mem2 y).1 (mem2 y).2 key) (way ++ [key])
  let cs := unionK ((mem2 o).1 ++ (kx ++ (mem2 y).1))
  threeQ o (some (.obj kx lx)) y (if sortO y = 6 then (some (.obj ((keyed (fun key => (F key).1) cs).map (·.1)) ((keyed (fun key => (F key).1) cs).map (·.2))), cs.flatMap fun key => (F key).2) else (some (.obj kx lx), [printB way]))
 | x => fun o y way => threeQ o (some x) y (some x, [printB way])
noncomputable def three (o x y : Option JV) (way : List ByteArray) : Option JV × List ByteArray := match x with
 | none => threeQ o none y (none, [printB way])
 | some x => x.three o y way
noncomputable def threeF (o x y : Option JV) (way : List ByteArray) (key : ByteArray) : Option JV × List ByteArray := three (atK (mem2 o).1 (mem2 o).2 key) (atK (mem2 x).1 (mem2 x).2 key) (atK (mem2 y).1 (mem2 y).2 key) (way ++ [key])
theorem three_whole (p : JV) (o y : Option JV) (way : List ByteArray) (h : p.sort ≠ 6) : p.three o y way = threeQ o (some p) y (some p, [printB way]) := by cases p <;> first | exact absurd rfl h | simp [JV.three]
noncomputable def unionT (o x y : Option JV) : List ByteArray := unionK ((mem2 o).1 ++ ((mem2 x).1 ++ (mem2 y).1))
theorem three_obj (kx : List ByteArray) (lx : List JV) (o y : Option JV) (way : List ByteArray) : (JV.obj kx lx).three o y way = threeQ o (some (.obj kx lx)) y (if sortO y = 6 then (some (.obj ((keyed (fun key => (threeF o (some (.obj kx lx)) y way key).1) (unionT o (some (.obj kx lx)) y)).map (·.1)) ((keyed (fun key => (threeF o (some (.obj kx lx)) y way key).1) (unionT o (some (.obj kx lx)) y)).map (·.2))), (unionT o (some (.obj kx lx)) y).flatMap fun key => (threeF o (some (.obj kx lx)) y way key).2) else (some (.obj kx lx), [printB way])) := by
 have hF : ∀ key, threeAt (atK (mem2 o).1 (mem2 o).2 key) (atK kx (lx.map fun x => (x, x.three)) key) (atK (mem2 y).1 (mem2 y).2 key) (way ++ [key]) = threeF o (some (.obj kx lx)) y way key := fun key => by
  unfold threeF
  rw [atK_map]
  show threeAt _ ((atK kx lx key).map _) _ _ = three _ (atK kx lx key) _ _
  cases atK kx lx key <;> rfl
 rw [JV.three]
 simp only [hF]
 rfl
section
variable {o x y : Option JV} {way : List ByteArray}
theorem three_form : three o x y way = threeQ o x y (if sortO x = 6 ∧ sortO y = 6 then (some (.obj ((keyed (fun key => (threeF o x y way key).1) (unionT o x y)).map (·.1)) ((keyed (fun key => (threeF o x y way key).1) (unionT o x y)).map (·.2))), (unionT o x y).flatMap fun key => (threeF o x y way key).2) else (x, [printB way])) := by
 cases x with
 | none => rw [if_neg (fun h => absurd h.1 (by decide))]; rfl
 | some p =>
  by_cases hs : p.sort = 6
  ·obtain ⟨kx, lx, rfl⟩ := JOk.obj_of hs
   show (JV.obj kx lx).three o y way = _
   rw [three_obj]
   by_cases hy : sortO y = 6
   ·rw [if_pos hy, if_pos ⟨rfl, hy⟩]
   rw [if_neg hy, if_neg (fun h => hy h.2)]
  show p.three o y way = _
  rw [three_whole p o y way hs, if_neg (fun h => hs h.1)]
theorem three_alike (h : x = y ∨ y = o) : three o x y way = (x, []) := by rw [three_form]; unfold threeQ; rw [if_pos h]
theorem three_other (h : ¬ (x = y ∨ y = o)) (h2 : x = o) : three o x y way = (y, []) := by rw [three_form]; unfold threeQ; rw [if_neg h, if_pos h2]
theorem three_clash (h : ¬ (x = y ∨ y = o)) (h2 : x ≠ o) (h3 : ¬ (sortO x = 6 ∧ sortO y = 6)) : three o x y way = (x, [printB way]) := by rw [three_form]; unfold threeQ; rw [if_neg h, if_neg h2, if_neg h3]
theorem three_both (h : ¬ (x = y ∨ y = o)) (h2 : x ≠ o) (h3 : sortO x = 6) (h4 : sortO y = 6) : three o x y way = (some (.obj ((keyed (fun key => (threeF o x y way key).1) (unionT o x y)).map (·.1)) ((keyed (fun key => (threeF o x y way key).1) (unionT o x y)).map (·.2))), (unionT o x y).flatMap fun key => (threeF o x y way key).2) := by rw [three_form]; unfold threeQ; rw [if_neg h, if_neg h2, if_pos ⟨h3, h4⟩]
theorem unionT_spec (ho : OOk o) (hx : OOk x) (hy : OOk y) : (unionT o x y).Pairwise ltS ∧ ∀ s, s ∈ unionT o x y ↔ s ∈ (mem2 o).1 ++ ((mem2 x).1 ++ (mem2 y).1) :=
 unionK_spec fun k hk => (List.mem_append.1 hk).elim ((mem2_ok ho).2.2.1 k) fun hk => (List.mem_append.1 hk).elim ((mem2_ok hx).2.2.1 k) ((mem2_ok hy).2.2.1 k)
theorem OOk.at {key : ByteArray} (h : OOk x) : OOk (atK (mem2 x).1 (mem2 x).2 key) := at_ok (mem2_ok h).2.1 (mem2_ok h).2.2.2
end
theorem opt_parts {P : Option JV → Prop} (h : ∀ x, OOk x → (sortO x = 6 → ∀ key, P (atK (mem2 x).1 (mem2 x).2 key)) → P x) : ∀ x, OOk x → P x := by
 have hn : P none := h none (fun x hx => by cases hx) fun h => absurd h (by decide)
 have hs : ∀ p, JOk p → P (some p) := by
  refine JV.by_parts fun p ih hp => h (some p) (fun x hx => by injection hx with hx; rw [← hx]; exact hp) fun hs key => ?_
  obtain ⟨ks, l, rfl⟩ := JOk.obj_of hs
  cases hk : atK ks l key with
  | none => show P (atK ks l key); rw [hk]; exact hn
  | some u =>
   show P (atK ks l key)
   rw [hk]
   have hm := (atK_some_mem hp.form.2.2.1 hk).2
   exact ih u hm (hp.form.2.2.2.2.2 u hm)
 intro x hx
 cases x with
 | none => exact hn
 | some p => exact hs p (hx p rfl)
theorem sortO_obj {x : Option JV} (h : sortO x = 6) : ∃ ks l, x = some (.obj ks l) := by
 cases x with
 | none => exact absurd h (by decide)
 | some p => obtain ⟨ks, l, rfl⟩ := JOk.obj_of h; exact ⟨ks, l, rfl⟩
theorem three_ok : ∀ x, OOk x → ∀ o y, OOk o → OOk y → ∀ way, OOk (three o x y way).1 := by
 refine opt_parts fun x hx ih o y ho hy way => ?_
 by_cases h1 : x = y ∨ y = o
 ·rw [three_alike h1]; exact hx
 by_cases h2 : x = o
 ·rw [three_other h1 h2]; exact hy
 by_cases h3 : sortO x = 6 ∧ sortO y = 6
 ·rw [three_both h1 h2 h3.1 h3.2]
  intro j hj
  injection hj with hj
  subst hj
  have hu := unionT_spec ho hx hy
  refine JOk.obj (by simp) (List.pairwise_map.2 (keyed_rising hu.1)) (fun k hk => ?_) fun z hz => ?_
  ·obtain ⟨q, hq, rfl⟩ := List.mem_map.1 hk
   exact (List.mem_append.1 ((hu.2 _).1 (keyed_mem.1 hq).1)).elim ((mem2_ok ho).2.2.1 _) fun h => (List.mem_append.1 h).elim ((mem2_ok hx).2.2.1 _) ((mem2_ok hy).2.2.1 _)
  obtain ⟨q, hq, rfl⟩ := List.mem_map.1 hz
  exact ih h3.1 q.1 _ _ ho.at hy.at _ _ (keyed_mem.1 hq).2
 rw [three_clash h1 h2 h3]; exact hx
theorem ow_one {o : Option JV} (h : o ≠ none) : 1 ≤ ow JV.nodes o := by
 cases o with
 | none => exact absurd rfl h
 | some j => show 1 ≤ j.nodes; rw [JV.nodes_eq]; omega
theorem ow_obj {f : JV → Nat} {c : Nat} {g : ByteArray → Nat} (hw : Weight f c g) {x : Option JV} (h : sortO x = 6) : ow f x = c + sumN ((mem2 x).1.map g) + sumN ((mem2 x).2.map f) := by
 obtain ⟨ks, l, rfl⟩ := sortO_obj h
 exact hw.obj ks l
theorem three_some {o x y : Option JV} {way : List ByteArray} (h : (three o x y way).1 ≠ none) : x ≠ none ∨ y ≠ none := by
 cases x with
 | some p => exact .inl fun h => by cases h
 | none =>
  cases y with
  | some p => exact .inr fun h => by cases h
  | none => rw [three_alike (.inl rfl)] at h; exact absurd rfl h
theorem three_weight {f : JV → Nat} {c : Nat} {g : ByteArray → Nat} (hw : Weight f c g) : ∀ x, OOk x → ∀ o y, OOk o → OOk y → ∀ way, ow f (three o x y way).1 ≤ ow f x + ow f y := by
 refine opt_parts fun x hx ih o y ho hy way => ?_
 by_cases h1 : x = y ∨ y = o
 ·rw [three_alike h1]; exact Nat.le_add_right _ _
 by_cases h2 : x = o
 ·rw [three_other h1 h2]; exact Nat.le_add_left _ _
 by_cases h3 : sortO x = 6 ∧ sortO y = 6
 ·rw [three_both h1 h2 h3.1 h3.2]
  show f _ ≤ _
  have hu := unionT_spec ho hx hy
  have hn := ltS_nodup hu.1
  obtain ⟨cs, hcs⟩ : ∃ cs, cs = unionT o x y := ⟨_, rfl⟩
  rw [← hcs] at hu hn ⊢
  rw [hw.obj, ow_obj hw h3.1, ow_obj hw h3.2]
  have h4 := sumN_keys g _ ((mem2 x).1 ++ (mem2 y).1) ((keyed_keys (fun key => (threeF o x y way key).1) cs).nodup hn) (fun s hm => by
   obtain ⟨q, hq, rfl⟩ := List.mem_map.1 hm
   have h5 := (keyed_mem.1 hq).2
   refine List.mem_append.2 ((three_some (o := atK (mem2 o).1 (mem2 o).2 q.1) (way := way ++ [q.1]) (by
    show (threeF o x y way q.1).1 ≠ none
    have h6 : (threeF o x y way q.1).1 = some q.2 := h5
    rw [h6]; exact fun h => by cases h)).imp (fun h => ?_) fun h => ?_)
   ·cases h6 : atK (mem2 x).1 (mem2 x).2 q.1 with
    | none => exact absurd h6 h
    | some u => exact (atK_some_mem (mem2_ok hx).2.1 h6).1
   cases h6 : atK (mem2 y).1 (mem2 y).2 q.1 with
   | none => exact absurd h6 h
   | some u => exact (atK_some_mem (mem2_ok hy).2.1 h6).1)
  rw [List.map_append, sumN_app] at h4
  have h5 := keyed_weight (f := f) (F := fun key => (threeF o x y way key).1) (a := fun key => ow f (atK (mem2 x).1 (mem2 x).2 key)) (b := fun key => ow f (atK (mem2 y).1 (mem2 y).2 key)) (fun key => ih h3.1 key _ _ ho.at hy.at _) cs
  have h6 := sumN_at f cs hn (mem2 x).1 (mem2 x).2
  have h7 := sumN_at f cs hn (mem2 y).1 (mem2 y).2
  have h8 : ((keyed (fun key => (threeF o x y way key).1) cs).map (·.2)).map f = (keyed (fun key => (threeF o x y way key).1) cs).map fun p => f p.2 := by rw [List.map_map]; rfl
  rw [h8]
  omega
 rw [three_clash h1 h2 h3]; exact Nat.le_add_right _ _
theorem flat_len {F : ByteArray → List ByteArray} {a b : ByteArray → Nat} (h : ∀ key, (F key).length ≤ a key + b key) : ∀ cs : List ByteArray, (cs.flatMap F).length ≤ sumN (cs.map a) + sumN (cs.map b)
 | [] => by simp [sumN]
 | c :: cs => by
  have h1 := flat_len h cs
  have h2 := h c
  rw [List.flatMap_cons, List.length_append]
  simp only [List.map_cons, sumN]
  omega
theorem three_few : ∀ x, OOk x → ∀ o y, OOk o → OOk y → ∀ way, (three o x y way).2.length ≤ ow JV.nodes x + ow JV.nodes y := by
 refine opt_parts fun x hx ih o y ho hy way => ?_
 by_cases h1 : x = y ∨ y = o
 ·rw [three_alike h1]; exact Nat.zero_le _
 by_cases h2 : x = o
 ·rw [three_other h1 h2]; exact Nat.zero_le _
 by_cases h3 : sortO x = 6 ∧ sortO y = 6
 ·rw [three_both h1 h2 h3.1 h3.2, ow_obj weight_nodes h3.1, ow_obj weight_nodes h3.2]
  have hn := ltS_nodup (unionT_spec ho hx hy).1
  have h5 := flat_len (F := fun key => (threeF o x y way key).2) (a := fun key => ow JV.nodes (atK (mem2 x).1 (mem2 x).2 key)) (b := fun key => ow JV.nodes (atK (mem2 y).1 (mem2 y).2 key)) (fun key => ih h3.1 key _ _ ho.at hy.at _) (unionT o x y)
  have h6 := sumN_at JV.nodes (unionT o x y) hn (mem2 x).1 (mem2 x).2
  have h7 := sumN_at JV.nodes (unionT o x y) hn (mem2 y).1 (mem2 y).2
  show ((unionT o x y).flatMap fun key => (threeF o x y way key).2).length ≤ _
  omega
 rw [three_clash h1 h2 h3]
 show 1 ≤ _
 cases x with
 | some p => have := ow_one (o := some p) (fun h => by cases h); omega
 | none =>
  have := ow_one (o := y) (fun h => h1 (.inl h.symm)); omega
theorem sumN_keyTake (f : ByteArray → Nat) {cs : List ByteArray} {i : Nat} {key : ByteArray} (h : cs[i]? = some key) : sumN ((cs.take (i + 1)).map f) = sumN ((cs.take i).map f) + f key := by
 rw [List.take_add_one, h, List.map_append, sumN_app]
 simp [sumN]
theorem three_room {o x y : Option JV} (ho : OOk o) (hx : OOk x) (hy : OOk y) (way : List ByteArray) {cs : List ByteArray} (hn : cs.Nodup) {i : Nat} {key : ByteArray} (hk : cs[i]? = some key) :
  ((cs.take i).flatMap fun k => (threeF o x y way k).2).length + ow JV.nodes (atK (mem2 x).1 (mem2 x).2 key) + ow JV.nodes (atK (mem2 y).1 (mem2 y).2 key) ≤ ow JV.nodes x + ow JV.nodes y := by
 have h5 := flat_len (F := fun key => (threeF o x y way key).2) (a := fun key => ow JV.nodes (atK (mem2 x).1 (mem2 x).2 key)) (b := fun key => ow JV.nodes (atK (mem2 y).1 (mem2 y).2 key)) (fun key => three_few _ hx.at _ _ ho.at hy.at _) (cs.take i)
 have hn' : (cs.take (i + 1)).Nodup := hn.sublist (List.take_sublist _ _)
 have h6 := sumN_at JV.nodes (cs.take (i + 1)) hn' (mem2 x).1 (mem2 x).2
 have h7 := sumN_at JV.nodes (cs.take (i + 1)) hn' (mem2 y).1 (mem2 y).2
 rw [sumN_keyTake _ hk] at h6 h7
 have h8 := ow_mem weight_nodes x
 have h9 := ow_mem weight_nodes y
 omega
end Go.Json
namespace Go.Proofs.YtdmcioghdindfaaGreatDoor
open Go Go.RowKit Go.Aff Go.Json Go.Rng
attribute [local go_sem] Oper.semAt_some
structure TogIn (D : Nat → Prop) (m0 cc ct : Nat) (w : World) (A : Option Addr) (n c : Nat) (xs : List ByteArray) (vo vx vy : Value) (o x y : Option JV) (Wa : Option Addr) (wn : Nat) (way : List ByteArray) : Prop where
  st : CSt m0 w cc ct A n c xs
  off : ∀ i, D i → ¬ CF cc A n c i
  ao : OAtR D w vo o
  ax : OAtR D w vx x
  ay : OAtR D w vy y
  oo : OOk o
  ox : OOk x
  oy : OOk y
  row : Rd w Wa wn (way.map .string)
  rowOff : Out (CF cc A n c) Wa wn
  len : way.length = wn
  keys : KeysP way
  room : wn + ow JV.deep x ≤ 65536
  max : MaxAt w
  so : ∀ j, o = some j → j.nodes ≤ 65536 ∧ j.bytes ≤ 2097152
  sx : ∀ j, x = some j → j.nodes ≤ 65536 ∧ j.bytes ≤ 2097152
  sy : ∀ j, y = some j → j.nodes ≤ 65536 ∧ j.bytes ≤ 2097152
  few : xs.length + ow JV.nodes x + ow JV.nodes y ≤ 1073741824
  glob : 1 ≠ cc ∧ 1 < m0
def TogPost (D : Nat → Prop) (m0 cc ct : Nat) (w : World) (A : Option Addr) (n c : Nat) (xs : List ByteArray) (r : Option JV × List ByteArray) (e : Ending) (w' : World) : Prop :=
  ∃ t A' n' c', e = .returned t ∧ CSt m0 w' cc ct A' n' c' (xs ++ r.2) ∧ OTAt (TE D w cc A' n' c') w' t r.1 ∧ Keeps (CF cc A n c) w w' ∧ ∀ g, (Value.slice A' n' c').ownBlock = some g → (Value.slice A n c).ownBlock = some g ∨ w.heap.size ≤ g
section
variable {D : Nat → Prop} {m0 cc ct : Nat} {w : World} {A : Option Addr} {n c : Nat} {xs : List ByteArray} {vo vx vy : Value} {o x y : Option JV} {Wa : Option Addr} {wn wc0 : Nat} {way : List ByteArray}
theorem tog_same {r : Option JV × List ByteArray} {w' : World} {v : Value} (h : TogIn D m0 cc ct w A n c xs vo vx vy o x y Wa wn way) (k : Keeps (fun _ => False) w w') (hv : OAtR D w v r.1) (hr : r.2 = []) : TogPost D m0 cc ct w A n c xs r (.returned v) w' := by
  refine ⟨v, A, n, c, rfl, ?_, ?_, k.mono fun _ _ h => h.elim, fun g hg => .inl hg⟩
  · rw [hr, List.append_nil]; exact h.st.stay k
  exact ((hv.stay k).loose).mono fun i hi _ => ⟨.inl hi, h.off i hi⟩
theorem slimO {x : Option JV} (hx : OOk x) (hs : ∀ j, x = some j → j.nodes ≤ 65536 ∧ j.bytes ≤ 2097152) : ∀ j, x = some j → Slim j := fun j hj => slim_of j (hx j hj) (by have := hs j hj; omega)
theorem same_is {D : Nat → Prop} {w : World} {v v2 : Value} {o1 o2 : Option JV} (h : OAtR D w v o1) (h2 : OAtR D w v2 o2) (hs : ∀ x, o1 = some x → Slim x) (b : Bool) (hb : b = true ↔ o1 = o2) : Hid (∀ W, Keeps (fun _ => False) w W → Calls Tryz.prog 29 #[v, v2] W fun e w' => e = .returned (.bool b) ∧ Hid (Keeps (fun _ => False) w w')) := H_ fun W hW => by
  refine (msame_any W v v2 o1 o2 (h.stay hW) (h2.stay hW) hs).mono ?_
  rintro e w' ⟨b', he, hb', hk⟩
  have : b' = b := by
    cases b' <;> cases b <;> first | rfl | exact absurd (hb.1 rfl) fun e => by simpa using hb'.2 e | exact absurd (hb'.1 rfl) fun e => by simpa using hb.2 e
  subst this
  exact ⟨he, H_ (hW.trans hk fun _ _ h => h)⟩
theorem as_mobj {v : Value} {o : Option JV} (h : OAtR D w v o) : ∃ px bx, (∀ W, (Instr.typeAssert v 71 73 true).run Tryz.prog W = .ok (.tuple #[px, .bool bx]) W) ∧ (bx = true ↔ sortO o = 6) ∧ (bx = true → ∃ b, px = .pointer (some ⟨b, 0, none⟩) ∧ v = .iface 73 px) := by
  cases o with
  | none =>
    have hv : v = .nilIface := h
    subst hv
    exact ⟨.pointer none, false, fun W => by kernel_rfl, by simp [sortO], fun h => by cases h⟩
  | some j =>
    have h' : TAtR D w v j := h
    cases h' with
    | whole hj hs => exact ⟨.pointer none, false, as_whole_mobj _, ⟨fun h => (by cases h), fun h => absurd h hs⟩, fun h => (by cases h)⟩
    | obj hD hb hrf hk hok hr ho hl => exact ⟨_, true, as_mobj_mobj _, ⟨fun _ => rfl, fun _ => rfl⟩, fun _ => ⟨_, rfl, rfl⟩⟩
end
theorem tog_first {D : Nat → Prop} {m0 cc ct : Nat} {w : World} {A : Option Addr} {n c : Nat} {xs : List ByteArray} {vo vx vy : Value} {o x y : Option JV} {Wa : Option Addr} {wn : Nat} {way : List ByteArray} (h : TogIn D m0 cc ct w A n c xs vo vx vy o x y Wa wn way) (wc0 : Nat) (h1 : (x = y ∨ y = o) ∨ x = o) :
    Calls Tryz.prog 28 #[vo, vx, vy, .slice Wa wn wc0, .pointer (some ⟨cc, 0, none⟩), .pointer (some ⟨ct, 0, none⟩)] w (TogPost D m0 cc ct w A n c xs (three o x y way)) := by
  have HH := H_ h
  have tk : True := trivial
  have tm : True := trivial
  by_cases hxy : x = y
  · have HS := same_is h.ax h.ay (slimO h.ox h.sx) true (by simp [hxy])
    have HR := H_ (three_alike (way := way) (.inl hxy : x = y ∨ y = o))
    clear h h1 hxy
    go_enter Tryz.func28, Tryz.ntmps28
    go_wp2_with (go_at_call 29; have _t := tk; clear tk; refine (HS.out _ (Keeps.refl _ _)).mono ?_; rintro e w1 ⟨rfl, H1⟩)
    go_ret
    rw [HR.out]
    exact tog_same HH.out H1.out HH.out.ax rfl
  have HS := same_is h.ax h.ay (slimO h.ox h.sx) false (by simp [hxy])
  by_cases hyo : y = o
  · have HT := same_is h.ay h.ao (slimO h.oy h.sy) true (by simp [hyo])
    have HR := H_ (three_alike (way := way) (.inr hyo : x = y ∨ y = o))
    clear h h1 hxy hyo
    go_enter Tryz.func28, Tryz.ntmps28
    go_wp2_with (first
      | (go_at_call 29; have _t := tk; clear tk; refine (HS.out _ (Keeps.refl _ _)).mono ?_; rintro e w1 ⟨rfl, H1⟩)
      | (go_at_call 29; have _t := tm; clear tm; refine (HT.out _ H1.out).mono ?_; rintro e w2 ⟨rfl, H2⟩))
    go_ret
    rw [HR.out]
    exact tog_same HH.out H2.out HH.out.ax rfl
  have HT := same_is h.ay h.ao (slimO h.oy h.sy) false (by simp [hyo])
  have hxo : x = o := h1.resolve_left fun h => h.elim hxy hyo
  have HU := same_is h.ax h.ao (slimO h.ox h.sx) true (by simp [hxo])
  have HR := H_ (three_other (way := way) (fun h : x = y ∨ y = o => h.elim hxy hyo) hxo)
  clear h h1 hxy hyo hxo
  go_enter Tryz.func28, Tryz.ntmps28
  go_wp2_with (first
    | (go_at_call 29; have _t := tk; clear tk; refine (HS.out _ (Keeps.refl _ _)).mono ?_; rintro e w1 ⟨rfl, H1⟩)
    | (go_at_call 29; have _t := tm; clear tm; refine (HT.out _ H1.out).mono ?_; rintro e w2 ⟨rfl, H2⟩)
    | (go_at_call 29; refine (HU.out _ H2.out).mono ?_; rintro e w3 ⟨rfl, H3⟩))
  go_ret
  rw [HR.out]
  exact tog_same HH.out H3.out HH.out.ay rfl
theorem tog_clash {D : Nat → Prop} {m0 cc ct : Nat} {w : World} {A : Option Addr} {n c : Nat} {xs : List ByteArray} {vo vx vy : Value} {o x y : Option JV} {Wa : Option Addr} {wn : Nat} {way : List ByteArray} (h : TogIn D m0 cc ct w A n c xs vo vx vy o x y Wa wn way) (wc0 : Nat) (h1 : ¬ (x = y ∨ y = o)) (h2 : x ≠ o) (h3 : ¬ (sortO x = 6 ∧ sortO y = 6)) :
    Calls Tryz.prog 28 #[vo, vx, vy, .slice Wa wn wc0, .pointer (some ⟨cc, 0, none⟩), .pointer (some ⟨ct, 0, none⟩)] w (TogPost D m0 cc ct w A n c xs (three o x y way)) := by
  have HH := H_ h
  have tk : True := trivial
  have tm : True := trivial
  have HS := same_is h.ax h.ay (slimO h.ox h.sx) false ⟨fun e => (by cases e), fun e => absurd (.inl e) h1⟩
  have HT := same_is h.ay h.ao (slimO h.oy h.sy) false ⟨fun e => (by cases e), fun e => absurd (.inr e) h1⟩
  have HU := same_is h.ax h.ao (slimO h.ox h.sx) false ⟨fun e => (by cases e), fun e => absurd e h2⟩
  have HR := H_ (three_clash (way := way) h1 h2 h3)
  obtain ⟨px, bx, hax, hbx, _⟩ := as_mobj h.ax
  obtain ⟨py, by_, hay, hby, _⟩ := as_mobj h.ay
  have hbb : ¬ (bx = true ∧ by_ = true) := fun e => h3 ⟨hbx.1 e.1, hby.1 e.2⟩
  have hroom := h.room
  have HPR : Hid (∀ W, Keeps (fun _ => False) w W → Calls Tryz.prog 30 #[.slice Wa wn wc0] W fun e w' => e = .returned (.tuple #[.string (printB way), .nilIface]) ∧ Hid (Keeps (fun _ => False) w w')) := H_ fun W hW => by
    refine (print_any W Wa wn wc0 way HH.out.len (HH.out.row.keep hW fun _ _ _ h => h) (HH.out.max.stay hW) HH.out.keys (by omega)).mono ?_
    rintro e w' ⟨he, hk⟩
    exact ⟨he, H_ (hW.trans hk fun _ _ h => h)⟩
  have HN : Hid (n ≤ 1073741824) := H_ (by have := h.st.len; have := h.few; omega)
  obtain ⟨at_, hat⟩ : ∃ s, s = printB way := ⟨_, rfl⟩
  rw [← hat] at HPR HR
  clear h h1 h2 h3 hbx hby hroom hat
  rcases bx with _ | _ <;> rcases by_ with _ | _
  rotate_left 3
  · exact absurd ⟨rfl, rfl⟩ hbb
  all_goals
    (  clear hbb
       go_enter Tryz.func28, Tryz.ntmps28
       go_wp2_with (first
         | (go_at_call 29; have _t := tk; clear tk; refine (HS.out _ (Keeps.refl _ _)).mono ?_; rintro e w1 ⟨rfl, H1⟩)
         | (go_at_call 29; have _t := tm; clear tm; refine (HT.out _ H1.out).mono ?_; rintro e w2 ⟨rfl, H2⟩)
         | (go_at_call 29; refine (HU.out _ H2.out).mono ?_; rintro e w3 ⟨rfl, H3⟩)
         | (go_at_call 30; refine (HPR.out _ H3.out).mono ?_; rintro e w4 ⟨rfl, H4⟩; have c4 := (HH.out.st.stay H4.out).blk.cell 0)
         | ((with_reducible show wpList _ _ _ (⟨some 59, _, _, _, _, _⟩ :: _) _ _); refine wpList_append_S _ rfl (.tmp 56) (.tmp 58) 29 rfl 9 (.string .empty) 1 16 Tryz.underlying29 (by kernel_rfl) rfl (by decide) A n c (xs.map .string) rfl (HH.out.st.stay (H4.out.alloc (.cells #[.string at_] 9))).row.1 (some ⟨w4.heap.size, 0, none⟩) 1 1 [.string at_] rfl (RdS.blk (Blk.new w4 9 [.string at_]) rfl) (by intro u hu; rw [List.mem_singleton.1 hu]; rfl) (by have := HN.out; unfold maxLen; omega) (by have := HN.out; omega) ?_; intro A' c' w5 k1 k2 k3; have HZ := H_ ((HH.out.st.stay (H4.out.alloc (.cells #[.string at_] 9))).app k2 (by rw [List.map_append]; exact k1) k3); have hb5 := (Keeps.of_grown k2).blk (HH.out.st.stay (H4.out.alloc (.cells #[.string at_] 9))).blk (fun e => by have h1 := ((HH.out.st.stay (H4.out.alloc (.cells #[.string at_] 9))).own e).1; have h2 := HH.out.st.lo; omega); have c5 := hb5.cell 0; have f5 := hb5.frozen 0; clear k1 k2 k3 hb5))
       go_ret
       rw [HR.out]
       have hk4 := H4.out.alloc (.cells #[.string at_] 9)
       refine ⟨_, _, _, _, rfl, HZ.out.1, ?_, (hk4.mono fun _ _ h => h.elim).trans HZ.out.2.1 fun _ _ h => h, fun g hg => (HZ.out.2.2 g hg).imp id fun h => Nat.le_trans hk4.size h⟩
       refine ((((HH.out.ax.mono (C := fun i => D i ∧ i < w.heap.size) fun i h1 h2 => ⟨h1, h2⟩).stay hk4).loose).keep HZ.out.2.1 fun i hi => HH.out.off i hi.1).mono fun i hi _ => ⟨.inl hi.1, fun e => ?_⟩
       rcases e with e | e
       · exact HH.out.off i hi.1 (.inl e)
       rcases HZ.out.2.2 i e with e1 | e1
       · exact HH.out.off i hi.1 (.inr e1)
       have h1 := hi.2
       have h2 := hk4.size
       omega)
theorem MaxAt.keep {F : Nat → Prop} {w w' : World} (h : MaxAt w) (k : Keeps F w w') (hg : ¬ F 1) : MaxAt w' := by
 obtain ⟨m, hm⟩ := h
 exact ⟨m, (k.cell (World.block_lt_of_cell? w _ hm) hg).trans hm⟩
theorem part_of {j x : JV} (hx : x ∈ j.items) (h : j.nodes ≤ 65536 ∧ j.bytes ≤ 2097152) : x.nodes ≤ 65536 ∧ x.bytes ≤ 2097152 := by
 have h3 := sumN_mem (List.mem_map.2 ⟨x, hx, rfl⟩ : x.nodes ∈ j.items.map fun x => x.nodes)
 have h4 := sumN_mem (List.mem_map.2 ⟨x, hx, rfl⟩ : x.bytes ∈ j.items.map fun x => x.bytes)
 have h1 := h.1
 have h2 := h.2
 rw [JV.nodes_eq] at h1
 rw [JV.bytes_eq] at h2
 omega
theorem mem2_part {o : Option JV} (h : ∀ j, o = some j → j.nodes ≤ 65536 ∧ j.bytes ≤ 2097152) : ∀ x ∈ (mem2 o).2, x.nodes ≤ 65536 ∧ x.bytes ≤ 2097152 := by
 cases o with
 | none => exact fun x hx => absurd hx List.not_mem_nil
 | some j =>
  have h1 := h j rfl
  have h2 : ∀ x ∈ j.items, x.nodes ≤ 65536 ∧ x.bytes ≤ 2097152 := fun x hx => part_of hx h1
  cases j <;> first
   | exact h2
   | exact fun x hx => absurd hx List.not_mem_nil
theorem mem2_keys {o : Option JV} (ho : OOk o) (h : ∀ j, o = some j → j.nodes ≤ 65536 ∧ j.bytes ≤ 2097152) : KeysP (mem2 o).1 ∧ (mem2 o).1.length ≤ 65536 := by
 cases o with
 | none => exact ⟨fun s hs => absurd hs List.not_mem_nil, Nat.zero_le _⟩
 | some j =>
  have h1 := h j rfl
  have h2 := ho j rfl
  have h3 := keysP_of h1.2 h2
  have h4 : j.keys.length ≤ 65536 := by
   have h3 := items_nodes j
   have h4 := h2.form.1
   omega
  cases j <;> first
   | exact ⟨h3, h4⟩
   | exact ⟨fun s hs => absurd hs List.not_mem_nil, Nat.zero_le _⟩
theorem tog_both {D : Nat → Prop} {m0 cc ct : Nat} {w : World} {A : Option Addr} {n c : Nat} {xs : List ByteArray} {vo : Value} {o : Option JV} {b1 b2 : Nat} {kx ky : List ByteArray} {lx ly : List JV} {Wa : Option Addr} {wn : Nat} {way : List ByteArray}
  (h : TogIn D m0 cc ct w A n c xs vo (.iface 73 (.pointer (some ⟨b1, 0, none⟩))) (.iface 73 (.pointer (some ⟨b2, 0, none⟩))) o (some (.obj kx lx)) (some (.obj ky ly)) Wa wn way) (wc0 : Nat) (hD : ∀ i, D i → i < w.heap.size) (h1 : ¬ (some (JV.obj kx lx) = some (.obj ky ly) ∨ some (JV.obj ky ly) = o)) (h2 : some (JV.obj kx lx) ≠ o)
  (ih : ∀ (key : ByteArray) (D' : Nat → Prop) (W : World) (A' : Option Addr) (n' c' : Nat) (xs' : List ByteArray) (vo' vx' vy' : Value) (o' y' : Option JV) (Wa' : Option Addr) (wn' wc' : Nat) (way' : List ByteArray), TogIn D' m0 cc ct W A' n' c' xs' vo' vx' vy' o' (atK kx lx key) y' Wa' wn' way' → Calls Tryz.prog 28 #[vo', vx', vy', .slice Wa' wn' wc', .pointer (some ⟨cc, 0, none⟩), .pointer (some ⟨ct, 0, none⟩)] W (TogPost D' m0 cc ct W A' n' c' xs' (three o' (atK kx lx key) y' way'))) :
  Calls Tryz.prog 28 #[vo, .iface 73 (.pointer (some ⟨b1, 0, none⟩)), .iface 73 (.pointer (some ⟨b2, 0, none⟩)), .slice Wa wn wc0, .pointer (some ⟨cc, 0, none⟩), .pointer (some ⟨ct, 0, none⟩)] w (TogPost D m0 cc ct w A n c xs (three o (some (.obj kx lx)) (some (.obj ky ly)) way)) := by
 have HS := same_is h.ax h.ay (slimO h.ox h.sx) false ⟨fun e => (by cases e), fun e => absurd (.inl e) h1⟩
 have HT := same_is h.ay h.ao (slimO h.oy h.sy) false ⟨fun e => (by cases e), fun e => absurd (.inr e) h1⟩
 have HU := same_is h.ax h.ao (slimO h.ox h.sx) false ⟨fun e => (by cases e), fun e => absurd e h2⟩
 have HR := H_ (three_both (way := way) h1 h2 rfl rfl)
 have hk1 := mem2_keys h.ox h.sx
 have hk2 := mem2_keys h.oy h.sy
 have hk0 := mem2_keys h.oo h.so
 obtain ⟨ku, hku⟩ : ∃ ku, ku = (mem2 o).1 := ⟨_, rfl⟩
 obtain ⟨lu, hlu⟩ : ∃ lu, lu = (mem2 o).2 := ⟨_, rfl⟩
 have hm2 := mem2_ok h.oo
 have HFX := H_ (h.ox _ rfl).form
 have HFY := H_ (h.oy _ rfl).form
 have HKU : Hid (ku.length = lu.length ∧ ku.Pairwise ltS) := H_ ⟨by rw [hku, hlu]; exact hm2.1, by rw [hku]; exact hm2.2.1⟩
 rw [← hku] at hk0
 have HKP : Hid (KeysP ku ∧ KeysP kx ∧ KeysP ky) := H_ ⟨hk0.1, hk1.1, hk2.1⟩
 have HFE : Hid (ku.length ≤ 65536 ∧ kx.length ≤ 65536 ∧ ky.length ≤ 65536) := H_ ⟨hk0.2, hk1.2, hk2.2⟩
 have hbig : ∀ {ks : List ByteArray}, KeysP ks → ∀ s ∈ ks, rightS s = true ∧ s.size ≤ 1152921504606846976 := fun hk s hs => ⟨(hk s hs).1, Nat.le_trans (hk s hs).2 (by decide)⟩
 have HK60 : Hid ((∀ s ∈ ku, rightS s = true ∧ s.size ≤ 1152921504606846976) ∧ (∀ s ∈ kx, rightS s = true ∧ s.size ≤ 1152921504606846976) ∧ ∀ s ∈ ky, rightS s = true ∧ s.size ≤ 1152921504606846976) := H_ ⟨hbig hk0.1, hbig hk1.1, hbig hk2.1⟩
 have HME : Hid (∀ W, Keeps (fun _ => False) w W → Calls Tryz.prog 31 #[vo] W fun e w' => ∃ bu, e = .returned (.pointer (some ⟨bu, 0, none⟩)) ∧ Hid (KidsAt (fun i => (D i ∨ w.heap.size ≤ i) ∧ i < w'.heap.size) w' bu ku lu ∧ Keeps (fun _ => False) w w')) := H_ (fun W hW => by
  refine (membersR_any W vo o (h.ao.stay hW)).mono ?_
  rintro e w' ⟨bu, he, ht, hk⟩
  rw [← hku, ← hlu] at ht
  exact ⟨bu, he, H_ ⟨ht.mono fun i h1 h2 => ⟨h1.imp id fun h => Nat.le_trans hW.size h, h2⟩, hW.trans hk fun _ _ h => h⟩⟩)
 have HH := H_ h
 have tk : True := trivial
 have tm : True := trivial
 have HD := H_ hD
 have HIH := H_ ih
 have HM := H_ (And.intro hku hlu)
 have HA1 := as_mobj_mobj (.pointer (some ⟨b1, 0, none⟩))
 have HA2 := as_mobj_mobj (.pointer (some ⟨b2, 0, none⟩))
 clear h hD h1 h2 ih hku hlu hm2 hk0 hk1 hk2 hbig
 go_enter Tryz.func28, Tryz.ntmps28
 go_upto_region 13 with (first
  | (go_at_call 29; have _t := tk; clear tk; refine (HS.out _ (Keeps.refl _ _)).mono ?_; rintro e wa ⟨rfl, Ha⟩)
  | (go_at_call 29; have _t := tm; clear tm; refine (HT.out _ Ha.out).mono ?_; rintro e wb ⟨rfl, Hb⟩)
  | (go_at_call 29; refine (HU.out _ Hb.out).mono ?_; rintro e wc ⟨rfl, Hc⟩)
  | (go_at_call 31; refine (HME.out _ Hc.out).mono ?_; rintro e w2 ⟨bu, rfl, H2⟩))
 obtain ⟨p, hpp⟩ : ∃ p, p = w2.heap.size := ⟨_, rfl⟩
 have HS0 : Hid (ObS (TE D w cc A n c) w2 (w2.alloc (.cells #[.nilIface, .slice none 0 0, .slice none 0 0] 84)) p .nilIface none 0 none 0 [] [] []) := H_ (by rw [hpp]; exact ObS.start _ w2)
 rw [← hpp]
 refine gen_codeF (fun W => ObS (TE D w cc A n c) w2 W p .nilIface none 0 none 0 [] [] []) HS0.out ?_
 intro w3 hs3
 have HS3 := H_ hs3
 have HPP := H_ hpp
 clear hs3 HS0 hpp HS HT HU HME Ha Hb Hc HA1 HA2
 have HKO : Hid (Calls Tryz.prog 32 #[.slice (some ⟨w3.heap.size, 0, none⟩) 3 3] (w3.alloc (.cells #[.pointer (some ⟨bu, 0, none⟩), .pointer (some ⟨b1, 0, none⟩), .pointer (some ⟨b2, 0, none⟩)] 73)) fun e w' => ∃ (A : Option Addr) (n c : Nat) (cs : List ByteArray), e = .returned (.slice A n c) ∧ n ≤ 1048576 ∧ Hid (cs.length = n ∧ Rd w' A n (cs.map .string) ∧ InB (fun i => w3.heap.size ≤ i) A n ∧ cs.Pairwise ltS ∧ (∀ s, s ∈ cs ↔ s ∈ ku ++ (kx ++ ky)) ∧ Keeps (fun _ => False) w3 w')) := H_ (by
  have k3 := HS3.out.keep.alloc (.cells #[.pointer (some ⟨bu, 0, none⟩), .pointer (some ⟨b1, 0, none⟩), .pointer (some ⟨b2, 0, none⟩)] 73)
  have hall : allK [(bu, ku), (b1, kx), (b2, ky)] = ku ++ (kx ++ ky) := by simp [allK]
  refine (keysOf_any _ (some ⟨w3.heap.size, 0, none⟩) 3 3 [(bu, ku), (b1, kx), (b2, ky)] ⟨rfl, fun _ => ⟨_, 0, rfl, fun j _ => by rw [Nat.zero_add]; exact (Blk.new w3 73 [.pointer (some ⟨bu, 0, none⟩), .pointer (some ⟨b1, 0, none⟩), .pointer (some ⟨b2, 0, none⟩)]).cell j⟩⟩ (fun q hq => ?_) (fun s hs => ?_) (by rw [hall, List.length_append, List.length_append]; have := HFE.out; omega) (by decide)).mono ?_
  ·simp only [List.mem_cons, List.not_mem_nil, or_false] at hq
   rcases hq with rfl | rfl | rfl
   ·exact (H2.out.1.stay k3).keys
   ·exact ((TAtR.stay HH.out.ax H2.out.2).stay k3).kids.keys
   exact ((TAtR.stay HH.out.ay H2.out.2).stay k3).kids.keys
  ·rw [hall] at hs
   exact (List.mem_append.1 hs).elim (HK60.out.1 s) fun hs => (List.mem_append.1 hs).elim (HK60.out.2.1 s) (HK60.out.2.2 s)
  rintro e w' ⟨A, n, c, cs, he, h1, h2, h3, h4, h5, h6, h7⟩
  rw [hall] at h6
  exact ⟨A, n, c, cs, he, h2, H_ ⟨h1, h3, h4.mono fun i hi => Nat.le_trans (by rw [World.size_alloc]; omega) hi, h5, h6, ((Keeps.refl _ w3).alloc _).trans h7 fun _ _ h => h⟩⟩)
 go_upto_block 1 with (go_at_call 32; refine HKO.out.mono ?_; rintro e w4 ⟨S, m, cc', cs, rfl, hm, H4⟩)
 have HP3 : Hid (w.heap.size ≤ w2.heap.size ∧ w2.heap.size ≤ p ∧ p < w3.heap.size ∧ w3.heap.size ≤ w4.heap.size) := H_ ⟨H2.out.2.size, by rw [HPP.out]; exact Nat.le_refl _, HS3.out.two.blk.lt, H4.out.2.2.2.2.2.size⟩
 have HK24 : Hid (Keeps (fun _ => False) w2 w4) := H_ (HS3.out.keep.trans H4.out.2.2.2.2.2 fun _ _ h => h)
 have HK04 : Hid (Keeps (fun _ => False) w w4) := H_ (H2.out.2.trans HK24.out fun _ _ h => h)
 have HS4 : Hid (TogSt D m0 cc ct w w2 w4 w4 p A n c none 0 none 0 [] [] A n c xs) := H_ (TogSt.start (by have h1 := HH.out.st.lo; have h2 := HP3.out; omega) (LaySt.start (HS3.out.stay H4.out.2.2.2.2.2)) (HH.out.st.stay HK04.out) (HH.out.st.off (by have := HP3.out; omega)))
 have HA4 := H_ (Rd.inB H4.out.2.1 H4.out.2.2.1 (C := fun i => w3.heap.size ≤ i ∧ i < w4.heap.size) fun i h1 h2 => ⟨h1, h2⟩)
 obtain ⟨F1, hF1⟩ : ∃ F : ByteArray → Option JV, F = fun key => (threeF o (some (.obj kx lx)) (some (.obj ky ly)) way key).1 := ⟨_, rfl⟩
 obtain ⟨F2, hF2⟩ : ∃ F : ByteArray → List ByteArray, F = fun key => (threeF o (some (.obj kx lx)) (some (.obj ky ly)) way key).2 := ⟨_, rfl⟩
 have HFF := H_ (And.intro hF1 hF2)
 have HUN : Hid (unionT o (some (.obj kx lx)) (some (.obj ky ly)) = cs) := H_ (unionK_eq H4.out.2.2.2.1 (by rw [← HM.out.1]; exact H4.out.2.2.2.2.1))
 have HLE : Hid (∀ i, (keyed F1 (cs.take i)).length ≤ i) := H_ fun i => Nat.le_trans (keyed_len _ _) (by rw [List.length_take]; omega)
 clear hF1 hF2 HKO
 go_wp2
 go_loopg [71] m (fun gk t wx => ∃ (i : Nat) (B1 : Option Addr) (d1 : Nat) (A1 : Option Addr) (c1 : Nat) (vals : List Value) (A3 : Option Addr) (n3 c3 : Nat), i ≤ m ∧ t = .int .i64 i ∧ gk = m - i ∧ Hid (TogSt D m0 cc ct w w2 w4 wx p A n c B1 d1 A1 c1 (keyed F1 (cs.take i)) vals A3 n3 c3 (xs ++ (cs.take i).flatMap F2)))
 case atStart => exact ⟨0, none, 0, none, 0, [], A, n, c, by omega, rfl, rfl, H_ (by simp only [keyed, List.take_zero, List.filterMap_nil, List.flatMap_nil, List.append_nil]; exact HS4.out)⟩
 case round =>
  obtain ⟨i, B1, d1, A1, c1, vals, A3, n3, c3, hin, rfl, hgk, HO⟩ := hrel
  have HGK := H_ hgk
  clear hgk
  have HKW : Hid (Keeps (CF cc A n c) w wr) := H_ ((HK04.out.mono fun _ _ h => h.elim).trans HO.out.keep fun q hq e => by
   have := HP3.out
   rcases e with e | e | e
   ·exact e
   ·omega
   omega)
  by_cases hlt : i < m
  ·obtain ⟨g, o1, key, hA, hky, hck⟩ := textAt (H4.out.2.1.keep HO.out.keep (HA4.out.out fun q hq e => by
    have h1 := HP3.out
    have h2 := hq.1
    have h3 := hq.2
    rcases e with e | e | e
    ·exact HH.out.st.off (by omega) e
    ·omega
    omega)) hlt
   subst hA
   have hkin := (H4.out.2.2.2.2.1 key).1 (List.mem_of_getElem? hky)
   have hkr : rightS key = true ∧ key.size ≤ 2097152 := (List.mem_append.1 hkin).elim (HKP.out.1 key) fun h => (List.mem_append.1 h).elim (HKP.out.2.1 key) (HKP.out.2.2 key)
   have hkok : rightS key = true ∧ key.size ≤ 1152921504606846976 := ⟨hkr.1, Nat.le_trans hkr.2 (by decide)⟩
   have k2 : Keeps (fun i => CF cc A n c i ∨ i = p ∨ w4.heap.size ≤ i) w2 wr := (HK24.out.mono fun _ _ h => h.elim).trans HO.out.keep fun _ _ h => h
   have hDD : ∀ q, (D q ∨ w.heap.size ≤ q) ∧ q < w2.heap.size → ¬ (CF cc A n c q ∨ q = p ∨ w4.heap.size ≤ q) := fun q hq e => by
    have h1 := HP3.out
    have h2 := hq.2
    rcases e with e | e | e
    ·exact hq.1.elim (fun h => HH.out.off q h e) fun h => HH.out.st.off h e
    ·omega
    omega
   have HG0 : Hid (∀ W, Keeps (fun _ => False) wr W → Calls Tryz.prog 33 #[.pointer (some ⟨bu, 0, none⟩), .string key] W fun e w' => ∃ x, e = .returned x ∧ Hid (OAtR (fun i => (D i ∨ w.heap.size ≤ i) ∧ i < w2.heap.size) w' x (atK ku lu key) ∧ Keeps (fun _ => False) wr w' ∧ Keeps (fun _ => False) W w')) := H_ fun W hW => by
    refine (getR_any W bu ku lu ((H2.out.1.keep k2 hDD).stay hW) HKU.out.1 HKU.out.2 HK60.out.1 key hkok (by have := HFE.out; omega)).mono ?_
    rintro e w' ⟨x, he, hx, hk⟩
    exact ⟨x, he, H_ ⟨hx, hW.trans hk fun _ _ h => h, hk⟩⟩
   have HG1 : Hid (∀ W, Keeps (fun _ => False) wr W → Calls Tryz.prog 33 #[.pointer (some ⟨b1, 0, none⟩), .string key] W fun e w' => ∃ x, e = .returned x ∧ Hid (OAtR (fun i => (D i ∨ w.heap.size ≤ i) ∧ i < w2.heap.size) w' x (atK kx lx key) ∧ Keeps (fun _ => False) wr w' ∧ Keeps (fun _ => False) W w')) := H_ fun W hW => by
    have ht : KidsAt (fun i => (D i ∨ w.heap.size ≤ i) ∧ i < w2.heap.size) W b1 kx lx := (((TAtR.kids HH.out.ax).mono (C := fun i => (D i ∨ w.heap.size ≤ i) ∧ i < w2.heap.size) fun i h1 h2 => ⟨.inl h1, Nat.lt_of_lt_of_le h2 H2.out.2.size⟩).stay H2.out.2).keep k2 hDD |>.stay hW
    refine (getR_any W b1 kx lx ht (HFX.out.2.1 rfl) HFX.out.2.2.1 HK60.out.2.1 key hkok (by have := HFE.out; omega)).mono ?_
    rintro e w' ⟨x, he, hx, hk⟩
    exact ⟨x, he, H_ ⟨hx, hW.trans hk fun _ _ h => h, hk⟩⟩
   have HG2 : Hid (∀ W, Keeps (fun _ => False) wr W → Calls Tryz.prog 33 #[.pointer (some ⟨b2, 0, none⟩), .string key] W fun e w' => ∃ x, e = .returned x ∧ Hid (OAtR (fun i => (D i ∨ w.heap.size ≤ i) ∧ i < w2.heap.size) w' x (atK ky ly key) ∧ Keeps (fun _ => False) wr w' ∧ Keeps (fun _ => False) W w')) := H_ fun W hW => by
    have ht : KidsAt (fun i => (D i ∨ w.heap.size ≤ i) ∧ i < w2.heap.size) W b2 ky ly := (((TAtR.kids HH.out.ay).mono (C := fun i => (D i ∨ w.heap.size ≤ i) ∧ i < w2.heap.size) fun i h1 h2 => ⟨.inl h1, Nat.lt_of_lt_of_le h2 H2.out.2.size⟩).stay H2.out.2).keep k2 hDD |>.stay hW
    refine (getR_any W b2 ky ly ht (HFY.out.2.1 rfl) HFY.out.2.2.1 HK60.out.2.2 key hkok (by have := HFE.out; omega)).mono ?_
    rintro e w' ⟨x, he, hx, hk⟩
    exact ⟨x, he, H_ ⟨hx, hW.trans hk fun _ _ h => h, hk⟩⟩
   have hwn : wn ≤ 65536 := by have := HH.out.room; omega
   have HDE : Hid (∀ W, Keeps (fun _ => False) wr W → Calls Tryz.prog 34 #[.slice Wa wn wc0, .string key] W fun e w' => ∃ A', e = .returned (.slice A' (wn + 1) (wn + 1)) ∧ Hid (Rd w' A' (wn + 1) ((way ++ [key]).map .string) ∧ InB (fun i => wr.heap.size ≤ i) A' (wn + 1) ∧ Keeps (fun _ => False) wr w' ∧ Keeps (fun _ => False) W w')) := H_ fun W hW => by
    refine (deeper_any W Wa wn wc0 way HH.out.len ((HH.out.row.keep HKW.out HH.out.rowOff).keep hW fun _ _ _ h => h) key hwn).mono ?_
    rintro e w' ⟨A', he, hr, hib, hk⟩
    exact ⟨A', he, H_ ⟨hr, hib.mono fun q hq => Nat.le_trans hW.size hq, hW.trans hk fun _ _ h => h, hk⟩⟩
   have hnod := ltS_nodup H4.out.2.2.2.1
   have hrm := three_room HH.out.oo HH.out.ox HH.out.oy way hnod hky
   have hFk : F1 key = (three (atK ku lu key) (atK kx lx key) (atK ky ly key) (way ++ [key])).1 ∧ F2 key = (three (atK ku lu key) (atK kx lx key) (atK ky ly key) (way ++ [key])).2 := by rw [HFF.out.1, HFF.out.2, HM.out.1, HM.out.2]; exact ⟨rfl, rfl⟩
   have hF2f : F2 = fun k => (threeF o (some (.obj kx lx)) (some (.obj ky ly)) way k).2 := HFF.out.2
   have hnew := HO.out.new
   have HTG : Hid (∀ W vo' vx' vy' A7, Keeps (fun _ => False) wr W → OAtR (fun i => (D i ∨ w.heap.size ≤ i) ∧ i < w2.heap.size) W vo' (atK ku lu key) → OAtR (fun i => (D i ∨ w.heap.size ≤ i) ∧ i < w2.heap.size) W vx' (atK kx lx key) → OAtR (fun i => (D i ∨ w.heap.size ≤ i) ∧ i < w2.heap.size) W vy' (atK ky ly key) → Rd W A7 (wn + 1) ((way ++ [key]).map .string) → InB (fun i => wr.heap.size ≤ i) A7 (wn + 1) →
     Calls Tryz.prog 28 #[vo', vx', vy', .slice A7 (wn + 1) (wn + 1), .pointer (some ⟨cc, 0, none⟩), .pointer (some ⟨ct, 0, none⟩)] W fun e w' => ∃ t A' n' c', e = .returned t ∧ Hid (TogSt D m0 cc ct w w2 w4 w' p A n c B1 d1 A1 c1 (keyed F1 (cs.take i)) vals A' n' c' (xs ++ (cs.take (i + 1)).flatMap F2)) ∧ Hid (OTAt (fun q => TE D w cc A' n' c' q ∧ q ≠ p ∧ (Value.slice B1 (keyed F1 (cs.take i)).length d1).ownBlock ≠ some q ∧ (Value.slice A1 (keyed F1 (cs.take i)).length c1).ownBlock ≠ some q) w' t (F1 key))) := H_ fun W vo' vx' vy' A7 hW h0 hx hy hr hib => by
    have hst := HO.out.stay hW
    have hb := hst.bounds
    have hbr := HO.out.bounds
    have hp3 := HP3.out
    have hkx : atK kx lx key = atK (mem2 (some (JV.obj kx lx))).1 (mem2 (some (JV.obj kx lx))).2 key := rfl
    have hky' : atK ky ly key = atK (mem2 (some (JV.obj ky ly))).1 (mem2 (some (JV.obj ky ly))).2 key := rfl
    have hsm : ∀ {q : Option JV}, (∀ j, q = some j → j.nodes ≤ 65536 ∧ j.bytes ≤ 2097152) → ∀ j, atK (mem2 q).1 (mem2 q).2 key = some j → j.nodes ≤ 65536 ∧ j.bytes ≤ 2097152 := fun hq j hj => mem2_part hq j (atK_mem hj)
    have hoff3 : ∀ q, (D q ∨ w.heap.size ≤ q) ∧ q < w2.heap.size → ¬ CF cc A3 n3 c3 q := fun q hq e => by
     have h1 := hq.2
     rcases e with e | e
     ·exact hDD q hq (.inl (.inl e))
     rcases hnew q e with e1 | e1
     ·exact hDD q hq (.inl (.inr e1))
     omega
    refine (HIH.out key (fun i => (D i ∨ w.heap.size ≤ i) ∧ i < w2.heap.size) W A3 n3 c3 (xs ++ (cs.take i).flatMap F2) vo' vx' vy' (atK ku lu key) (atK ky ly key) A7 (wn + 1) (wn + 1) (way ++ [key]) ⟨hst.st, hoff3, h0, hx, hy, ?_, ?_, ?_, hr, fun hn a e => HO.out.st.off (hib hn a e), ?_, ?_, ?_, ?_, ?_, ?_, ?_, ?_, HH.out.glob⟩).mono ?_
    ·rw [HM.out.1, HM.out.2]; exact HH.out.oo.at
    ·exact HH.out.ox.at (key := key)
    ·exact HH.out.oy.at (key := key)
    ·rw [List.length_append, HH.out.len]; rfl
    ·exact fun s hs => (List.mem_append.1 hs).elim (HH.out.keys s) fun h => by rw [List.mem_singleton.1 h]; exact hkr
    ·have h1 := HH.out.room
     have h2 : ow JV.deep (some (JV.obj kx lx)) = (JV.obj kx lx).deep := rfl
     rw [h2] at h1
     cases hk : atK kx lx key with
     | none =>
      have h6 := JV.deep_eq (JV.obj kx lx)
      show wn + 1 + 0 ≤ _
      omega
     | some xj =>
      have h4 := maxN_mem (List.mem_map.2 ⟨xj, atK_mem hk, rfl⟩ : xj.deep ∈ lx.map fun x => x.deep)
      simp only [JV.deep] at h1
      show wn + 1 + xj.deep ≤ _
      omega
    ·refine (HH.out.max.keep HKW.out fun e => ?_).stay hW
     rcases e with e | e
     ·exact HH.out.glob.1 e
     have h1 := (HH.out.st.own e).1
     have h2 := HH.out.glob.2
     omega
    ·rw [HM.out.1, HM.out.2]; exact hsm HH.out.so
    ·exact hsm HH.out.sx
    ·exact hsm HH.out.sy
    ·rw [List.length_append, hF2f]
     have h1 := HH.out.few
     rw [hkx, hky']
     omega
    rintro e w' ⟨t, A', n', c', he, hs, ht, hk, hn'⟩
    rw [← hFk.1] at ht
    rw [← hFk.2, List.append_assoc] at hs
    have hfl : (cs.take i).flatMap F2 ++ F2 key = (cs.take (i + 1)).flatMap F2 := by rw [List.take_add_one, hky, List.flatMap_append]; simp
    rw [hfl] at hs
    refine ⟨t, A', n', c', he, H_ (hst.told hk hs hn'), H_ (ht.mono fun q hq _ => ?_)⟩
    have hq2 := hq.2
    rcases hq.1 with h1 | h1
    ·have h3 := h1.2
     exact ⟨⟨h1.1, hq2⟩, by omega, fun e => by have := (hb.2.2.2.1 q e).1; omega, fun e => by have := (hb.2.2.2.2 q e).1; omega⟩
    exact ⟨⟨.inr (by have := hW.size; omega), hq2⟩, by have := hW.size; omega, fun e => by have := (hb.2.2.2.1 q e).2; omega, fun e => by have := (hb.2.2.2.2 q e).2; omega⟩
   have HFN : Hid (∀ W, Keeps (fun _ => False) wr W → W.cell? ⟨ct, 0, none⟩ = some (.func (.func 28) #[] #[.pointer (some ⟨cc, 0, none⟩), .pointer (some ⟨ct, 0, none⟩)])) := H_ fun W hW => ((HO.out.st.stay hW).fn).cell 0
   have HSN : Hid (keyed F1 (cs.take (i + 1)) = keyed F1 (cs.take i) ++ ((F1 key).map fun z => (key, z)).toList) := H_ (keyed_snoc hky)
   have cky := hck
   clear hky hkin hkr hkok hck k2 hDD hwn hnod hrm hFk hF2f hnew
   have hi63 : (0 : Int) ≤ (i : Int) := by omega
   have hiN : (i : Int) < (m : Int) := by omega
   go_upto_region 16 with fail
   refine wp_region_held_drew (S := fun V => V.cell? ⟨ct, 0, none⟩ = some (.func (.func 28) #[] #[.pointer (some ⟨cc, 0, none⟩), .pointer (some ⟨ct, 0, none⟩)])) (by kernel_rfl) (HFN.out _ (Keeps.refl _ _).drew) (fun h_ => ?_)
   refine tI 0 75 h_ ?_ (hy := .inl ⟨by rfl, by intro w' hSw; have cf := hSw; go_simp; first | done | rfl⟩)
   try simp only [pu]
   refine tI 1 76 h_ ?_
   try simp only [pu]
   refine tI 2 77 h_ ?_
   try simp only [pu]
   refine tI 4 79 h_ ?_
   try simp only [pu]
   refine tI 5 80 h_ ?_
   try simp only [pu]
   refine tI 7 82 h_ ?_
   try simp only [pu]
   refine tI 8 83 h_ ?_
   try simp only [pu]
   refine tI 10 85 h_ ?_
   try simp only [pu]
   refine tI 11 86 h_ ?_
   try simp only [pu]
   refine rH 3 (some 78) fun K hK => ?_
   go_simp
   refine (HG0.out _ (Keeps.refl _ _).drew).mono ?_
   rintro e w5 ⟨x0, rfl, H5⟩
   refine hK.out _ _ (HFN.out _ H5.out.2.1) (fun h_ => ?_)
   clear hK K
   try simp only [pu]
   refine rH 6 (some 81) fun K hK => ?_
   go_simp
   refine (HG1.out _ H5.out.2.1).mono ?_
   rintro e w6 ⟨x1, rfl, H6⟩
   refine hK.out _ _ (HFN.out _ H6.out.2.1) (fun h_ => ?_)
   clear hK K
   try simp only [pu]
   refine rH 9 (some 84) fun K hK => ?_
   go_simp
   refine (HG2.out _ H6.out.2.1).mono ?_
   rintro e w7 ⟨x2, rfl, H7⟩
   refine hK.out _ _ (HFN.out _ H7.out.2.1) (fun h_ => ?_)
   clear hK K
   try simp only [pu]
   refine rH 12 (some 87) fun K hK => ?_
   go_simp
   refine (HDE.out _ H7.out.2.1).mono ?_
   rintro e w8 ⟨A8, rfl, H8⟩
   refine hK.out _ _ (HFN.out _ H8.out.2.2.1) (fun h_ => ?_)
   clear hK K
   try simp only [pu]
   refine rH 13 (some 88) fun K hK => ?_
   go_simp
   refine (HTG.out _ x0 x1 x2 A8 H8.out.2.2.1 (((H5.out.1.stay H6.out.2.2).stay H7.out.2.2).stay H8.out.2.2.2) ((H6.out.1.stay H7.out.2.2).stay H8.out.2.2.2) (H7.out.1.stay H8.out.2.2.2) H8.out.1 H8.out.2.1).mono ?_
   rintro e w9 ⟨t9, A9, n9, c9, rfl, H9, HT9⟩
   refine hK.out _ _ (H9.out.st.fn.cell 0) (fun h_ => ?_)
   clear hK K
   try simp only [pu]
   refine tI 14 21 h_ ?_
   try simp only [pu]
   refine wpAnyH_done (by kernel_rfl) ?_ _
   cases hfk : F1 key with
   | none =>
    have ht : t9 = .nilIface := by have := HT9.out; rw [hfk] at this; exact this
    subst ht
    have HSN1 := H_ (show keyed F1 (cs.take (i + 1)) = keyed F1 (cs.take i) by rw [HSN.out, hfk]; simp)
    clear hfk
    go_wp2
    go_roundg (m - (i + 1))
    case measure => rw [HGK.out]; omega
    case rel => exact ⟨i + 1, B1, d1, A1, c1, vals, A9, n9, c9, by omega, by go_num, rfl, H_ (by rw [HSN1.out]; exact H9.out)⟩
   | some z =>
    have ht : TAt (fun q => TE D w cc A9 n9 c9 q ∧ q ≠ p ∧ (Value.slice B1 (keyed F1 (cs.take i)).length d1).ownBlock ≠ some q ∧ (Value.slice A1 (keyed F1 (cs.take i)).length c1).ownBlock ≠ some q) w9 t9 z := by have := HT9.out; rw [hfk] at this; exact this
    obtain ⟨T9, y9, hty⟩ := ht.iface
    subst hty
    have HSN1 := H_ (show keyed F1 (cs.take (i + 1)) = keyed F1 (cs.take i) ++ [(key, z)] by rw [HSN.out, hfk]; simp)
    have HADD := H_ (H9.out.add (by have := HLE.out i; omega) key (.iface T9 y9) z ht fun q hq => hq)
    clear hfk ht
    go_wp2_with (go_at_call 35; refine HADD.out.mono ?_; rintro e w10 ⟨rfl, B10, d10, A10, c10, vals10, H10⟩)
    go_roundg (m - (i + 1))
    case measure => rw [HGK.out]; omega
    case rel => exact ⟨i + 1, B10, d10, A10, c10, vals10, A9, n9, c9, by omega, by go_num, rfl, H_ (by rw [HSN1.out]; exact H10.out)⟩
  obtain rfl : i = m := by omega
  have hcsl : cs.take i = cs := List.take_of_length_le (by rw [H4.out.1]; exact Nat.le_refl _)
  have hth := HO.out.thing
  have hst := HO.out.st
  have hnew := HO.out.new
  have hr := HR.out
  rw [HUN.out] at hr
  rw [hcsl] at hth hst
  have HTH := H_ (And.intro hr (And.intro hth (And.intro hst hnew)))
  clear hth hst hcsl hr hnew
  go_wp2
  go_ret
  rw [HTH.out.1]
  have h1 := HTH.out.2.1
  have h2 := HTH.out.2.2.1
  rw [HFF.out.1] at h1
  rw [HFF.out.2] at h2
  exact ⟨_, A3, n3, c3, rfl, h2, h1, HKW.out, fun g hg => (HTH.out.2.2.2 g hg).imp id fun e => by have := HP3.out; omega⟩
theorem tog_any {m0 cc ct : Nat} : ∀ x, OOk x → ∀ {D : Nat → Prop} {w : World} {A : Option Addr} {n c : Nat} {xs : List ByteArray} {vo vx vy : Value} {o y : Option JV} {Wa : Option Addr} {wn : Nat} (wc0 : Nat) {way : List ByteArray}, TogIn D m0 cc ct w A n c xs vo vx vy o x y Wa wn way →
  Calls Tryz.prog 28 #[vo, vx, vy, .slice Wa wn wc0, .pointer (some ⟨cc, 0, none⟩), .pointer (some ⟨ct, 0, none⟩)] w (TogPost D m0 cc ct w A n c xs (three o x y way)) := by
 refine opt_parts fun x hx ih D w A n c xs vo vx vy o y Wa wn wc0 way h => ?_
 by_cases h1 : x = y ∨ y = o
 ·exact tog_first h wc0 (.inl h1)
 by_cases h2 : x = o
 ·exact tog_first h wc0 (.inr h2)
 by_cases h3 : sortO x = 6 ∧ sortO y = 6
 ·obtain ⟨kx, lx, rfl⟩ := sortO_obj h3.1
  obtain ⟨ky, ly, rfl⟩ := sortO_obj h3.2
  have hax := h.ax
  have hay := h.ay
  obtain ⟨px, bx, _, hbx, hx2⟩ := as_mobj hax
  obtain ⟨py, by_, _, hby, hy2⟩ := as_mobj hay
  obtain ⟨b1, e1, e2⟩ := hx2 (hbx.2 rfl)
  obtain ⟨b2, e3, e4⟩ := hy2 (hby.2 rfl)
  subst e1 e3
  subst e2 e4
  have hlow : TogIn (fun i => D i ∧ i < w.heap.size) m0 cc ct w A n c xs vo _ _ o _ _ Wa wn way := ⟨h.st, fun i hi => h.off i hi.1, h.ao.mono fun i h1 h2 => ⟨h1, h2⟩, h.ax.mono fun i h1 h2 => ⟨h1, h2⟩, h.ay.mono fun i h1 h2 => ⟨h1, h2⟩, h.oo, h.ox, h.oy, h.row, h.rowOff, h.len, h.keys, h.room, h.max, h.so, h.sx, h.sy, h.few, h.glob⟩
  refine (tog_both hlow wc0 (fun i hi => hi.2) h1 h2 fun key D' W A' n' c' xs' vo' vx' vy' o' y' Wa' wn' wc' way' hin => ih rfl key wc' hin).mono ?_
  rintro e w' ⟨t, A', n', c', he, hs, ht, hk, hn⟩
  exact ⟨t, A', n', c', he, hs, ht.mono fun i hi _ => ⟨hi.1.imp (fun h => h.1) id, hi.2⟩, hk, hn⟩
 exact tog_clash h wc0 h1 h2 h3
end Go.Proofs.YtdmcioghdindfaaGreatDoor
