/- Texts. -/
import Derived.Test.YtdmcioghdindfaaGreatDoorT24
import Derived.Shelf.Slices.CompactS
import Derived.Shelf.Slices.Cells
set_option linter.unusedSimpArgs false
set_option maxRecDepth 100000
set_option maxHeartbeats 4000000
namespace Go.Json
noncomputable def unionK (ks : List ByteArray) : List ByteArray := open Classical in if h : ∃ cs : List ByteArray, cs.Pairwise ltS ∧ ∀ s, s ∈ cs ↔ s ∈ ks then Classical.choose h else []
theorem unionK_eq {ks cs : List ByteArray} (h1 : cs.Pairwise ltS) (h2 : ∀ s, s ∈ cs ↔ s ∈ ks) : unionK ks = cs := by
 have h : ∃ cs : List ByteArray, cs.Pairwise ltS ∧ ∀ s, s ∈ cs ↔ s ∈ ks := ⟨cs, h1, h2⟩
 unfold unionK
 rw [dif_pos h]
 obtain ⟨h3, h4⟩ := Classical.choose_spec h
 exact rising_keys h3 h1 fun s => (h4 s).trans (h2 s).symm
def atK {α : Type} (ks : List ByteArray) (l : List α) (key : ByteArray) : Option α := (ks.findIdx? fun k => decide (k = key)).bind fun i => l[i]?
def mem2 : Option JV → List ByteArray × List JV
 | some (.obj ks l) => (ks, l)
 | _ => ([], [])
def layAt (under : Option JV) (over : Option (JV × (Option JV → JV))) : Option JV := match over with
 | none => under
 | some (y, f) => if y.sort = 1 then none else some (f under)
noncomputable def JV.lay : JV → Option JV → JV
 | .obj ko lo => fun v =>
  let L := lo.map fun y => (y, y.lay)
  let M := (unionK ((mem2 v).1 ++ ko)).filterMap fun key => (layAt (atK (mem2 v).1 (mem2 v).2 key) (atK ko L key)).map fun x => (key, x)
  .obj (M.map (·.1)) (M.map (·.2))
 | p => fun _ => p
theorem atK_map {α β : Type} (ks : List ByteArray) (l : List α) (f : α → β) (key : ByteArray) : atK ks (l.map f) key = (atK ks l key).map f := by
 unfold atK
 cases ks.findIdx? fun k => decide (k = key) with
 | none => rfl
 | some i => simp
theorem JV.by_parts {P : JV → Prop} (h : ∀ j : JV, (∀ x, x ∈ j.items → P x) → P j) : ∀ j, P j :=
 JV.ind (h .null fun x hx => by cases hx) (fun b => h (.flag b) fun x hx => by cases hx) (fun b => h (.num b) fun x hx => by cases hx) (fun s => h (.text s) fun x hx => by cases hx) (fun l ih => h (.list l) ih) (fun ks l ih => h (.obj ks l) ih)
theorem atK_cons {α : Type} (k : ByteArray) (ks : List ByteArray) (y : α) (l : List α) (key : ByteArray) : atK (k :: ks) (y :: l) key = if k = key then some y else atK ks l key := by
 unfold atK
 rw [List.findIdx?_cons]
 by_cases h : k = key
 ·rw [if_pos h, if_pos (decide_eq_true h)]; rfl
 rw [if_neg h, if_neg (by simpa using h)]
 cases ks.findIdx? fun k => decide (k = key) with
 | none => rfl
 | some i => simp
theorem atK_nil {α : Type} (l : List α) (key : ByteArray) : atK [] l key = none := by unfold atK; simp
theorem atK_nil2 {α : Type} (ks : List ByteArray) (key : ByteArray) : atK ks ([] : List α) key = none := by
 unfold atK
 cases ks.findIdx? fun k => decide (k = key) with
 | none => rfl
 | some i => simp
theorem atK_zip {α : Type} {ks : List ByteArray} (hp : ks.Pairwise ltS) : ∀ (l : List α) (key : ByteArray) (x : α), atK ks l key = some x ↔ (key, x) ∈ ks.zip l := by
 induction ks with
 | nil => intro l key x; simp [atK_nil]
 | cons k ks ih =>
  intro l key x
  cases l with
  | nil => simp [atK_nil2]
  | cons y l =>
   have hp' := List.pairwise_cons.1 hp
   rw [atK_cons, List.zip_cons_cons, List.mem_cons]
   by_cases h : k = key
   ·subst h
    rw [if_pos rfl]
    constructor
    ·intro e; injection e with e; subst e; exact .inl rfl
    rintro (e | e)
    ·injection e with _ e; rw [e]
    exact absurd (hp'.1 k (List.of_mem_zip e).1) (ltS_irrefl k)
   rw [if_neg h, ih hp'.2]
   constructor
   ·exact .inr
   rintro (e | e)
   ·injection e with e; exact absurd e.symm h
   exact e
theorem rising_fst {l : List (ByteArray × JV)} (h : Rising l) : (l.map (·.1)).Pairwise ltS := List.pairwise_map.2 h
theorem union_ex (ks : List ByteArray) (hr : ∀ k ∈ ks, rightS k = true) : ∃ cs : List ByteArray, cs.Pairwise ltS ∧ ∀ s, s ∈ cs ↔ s ∈ ks := by
 induction ks with
 | nil => exact ⟨[], .nil, fun s => Iff.rfl⟩
 | cons k ks ih =>
  obtain ⟨cs, h1, h2⟩ := ih fun s hs => hr s (List.mem_cons_of_mem _ hs)
  by_cases hk : k ∈ cs
  ·refine ⟨cs, h1, fun s => ?_⟩
   rw [h2 s, List.mem_cons]
   constructor
   ·exact .inr
   rintro (rfl | h)
   ·exact (h2 _).1 hk
   exact h
  have hm : (cs.map fun s => (s, JV.null)).map (·.1) = cs := by rw [List.map_map]; exact List.map_id _
  have hR : Rising (cs.map fun s => (s, JV.null)) := by
   have h : ((cs.map fun s => (s, JV.null)).map (·.1)).Pairwise ltS := by rw [hm]; exact h1
   exact List.pairwise_map.1 h
  have hdis : ∀ q ∈ (cs.map fun s => (s, JV.null)), ltS k q.1 ∨ ltS q.1 k := fun q hq => by
   obtain ⟨s, hs, rfl⟩ := List.mem_map.1 hq
   rcases ltS_tri (hr k (List.mem_cons_self ..)) (hr s (List.mem_cons_of_mem _ ((h2 s).1 hs))) with h | h | h
   ·exact .inl h
   ·exact absurd (h ▸ hs) hk
   exact .inr h
  have hins : Rising (insM (k, JV.null) (cs.map fun s => (s, JV.null))) := insM_rising (k, JV.null) _ hR hdis
  refine ⟨(insM (k, .null) (cs.map fun s => (s, JV.null))).map (·.1), rising_fst hins, fun s => ?_⟩
  have hpm := (insM_perm (k, JV.null) (cs.map fun s => (s, JV.null))).map (·.1)
  rw [List.map_cons, hm] at hpm
  rw [hpm.mem_iff, List.mem_cons, List.mem_cons, h2 s]
theorem unionK_spec {ks : List ByteArray} (hr : ∀ k ∈ ks, rightS k = true) : (unionK ks).Pairwise ltS ∧ ∀ s, s ∈ unionK ks ↔ s ∈ ks := by
 obtain ⟨cs, h1, h2⟩ := union_ex ks hr
 rw [unionK_eq h1 h2]
 exact ⟨h1, h2⟩
theorem atK_some_mem {α : Type} {ks : List ByteArray} {l : List α} {key : ByteArray} {x : α} (hp : ks.Pairwise ltS) (h : atK ks l key = some x) : key ∈ ks ∧ x ∈ l := List.of_mem_zip ((atK_zip hp l key x).1 h)
def keyed (f : ByteArray → Option JV) (cs : List ByteArray) : List (ByteArray × JV) := cs.filterMap fun key => (f key).map fun x => (key, x)
theorem keyed_mem {f : ByteArray → Option JV} {cs : List ByteArray} {p : ByteArray × JV} : p ∈ keyed f cs ↔ p.1 ∈ cs ∧ f p.1 = some p.2 := by
 unfold keyed
 rw [List.mem_filterMap]
 constructor
 ·rintro ⟨k, hk, h⟩
  cases hf : f k with
  | none => rw [hf] at h; cases h
  | some x =>
   rw [hf] at h
   injection h with h
   subst h
   exact ⟨hk, hf⟩
 rintro ⟨h1, h2⟩
 exact ⟨p.1, h1, by rw [h2]; rfl⟩
theorem keyed_rising {f : ByteArray → Option JV} {cs : List ByteArray} (hp : cs.Pairwise ltS) : Rising (keyed f cs) := by
 unfold Rising keyed
 rw [List.pairwise_filterMap]
 refine hp.imp fun {a b} hab p hp q hq => ?_
 cases ha : f a with
 | none => rw [ha] at hp; cases hp
 | some x =>
  cases hb : f b with
  | none => rw [hb] at hq; cases hq
  | some y =>
   rw [ha] at hp; rw [hb] at hq
   injection hp with hp; injection hq with hq
   subst hp; subst hq
   exact hab
def OOk (o : Option JV) : Prop := ∀ x, o = some x → JOk x
theorem mem2_ok {o : Option JV} (h : OOk o) : (mem2 o).1.length = (mem2 o).2.length ∧ (mem2 o).1.Pairwise ltS ∧ (∀ k ∈ (mem2 o).1, rightS k = true) ∧ ∀ x ∈ (mem2 o).2, JOk x := by
 cases o with
 | none => exact ⟨rfl, .nil, fun k hk => absurd hk List.not_mem_nil, fun x hx => absurd hx List.not_mem_nil⟩
 | some j =>
  have hj := h j rfl
  clear h
  have hf := hj.form
  cases j <;> first
   | exact ⟨rfl, .nil, fun k hk => absurd hk List.not_mem_nil, fun x hx => absurd hx List.not_mem_nil⟩
   | exact ⟨hf.2.1 rfl, hf.2.2.1, hf.2.2.2.1, hf.2.2.2.2.2⟩
theorem at_ok {ks : List ByteArray} {l : List JV} {key : ByteArray} (hp : ks.Pairwise ltS) (h : ∀ x ∈ l, JOk x) : OOk (atK ks l key) := fun x hx => h x (atK_some_mem hp hx).2
section
variable {ko : List ByteArray} {lo : List JV} {v : Option JV}
end
theorem JOk.obj {ks : List ByteArray} {l : List JV} (hl : ks.length = l.length) (hp : ks.Pairwise ltS) (hr : ∀ k ∈ ks, rightS k = true) (h : ∀ x ∈ l, JOk x) : JOk (.obj ks l) :=
 .mk _ (by show ks.length ≤ l.length; omega) (fun _ => hl) hp hr (by show rightS ByteArray.empty = true; decide) h
theorem JOk.obj_of {j : JV} (h : j.sort = 6) : ∃ ks l, j = .obj ks l := by
 cases j <;> first | exact ⟨_, _, rfl⟩ | cases h
structure Weight (f : JV → Nat) (c : Nat) (g : ByteArray → Nat) : Prop where
 obj : ∀ ks l, f (.obj ks l) = c + sumN (ks.map g) + sumN (l.map f)
theorem weight_nodes : Weight JV.nodes 1 fun _ => 0 := ⟨fun ks l => by
 have : sumN (ks.map fun _ => 0) = 0 := by
  induction ks with
  | nil => rfl
  | cons k ks ih => simp only [List.map_cons, sumN, ih]
 rw [this]; simp [JV.nodes]⟩
theorem weight_bytes : Weight JV.bytes 0 ByteArray.size := ⟨fun ks l => by simp [JV.bytes]⟩
theorem sumN_ite (k : ByteArray) (a : Nat) (g : ByteArray → Nat) : ∀ cs : List ByteArray, cs.Nodup → sumN (cs.map fun key => if k = key then a else g key) ≤ a + sumN (cs.map g)
 | [], _ => by simp [sumN]
 | c :: cs, h => by
  have h' := List.nodup_cons.1 h
  simp only [List.map_cons, sumN]
  by_cases hk : k = c
  ·subst hk
   rw [if_pos rfl]
   have : sumN (cs.map fun key => if k = key then a else g key) = sumN (cs.map g) := by
    congr 1
    refine List.map_congr_left fun s hs => ?_
    rw [if_neg fun e => h'.1 (by rw [e]; exact hs)]
   omega
  rw [if_neg hk]
  have := sumN_ite k a g cs h'.2
  omega
def ow (f : JV → Nat) (o : Option JV) : Nat := match o with
 | none => 0
 | some x => f x
theorem sumN_at (f : JV → Nat) (cs : List ByteArray) (hn : cs.Nodup) : ∀ (ks : List ByteArray) (l : List JV), sumN (cs.map fun key => ow f (atK ks l key)) ≤ sumN (l.map f)
 | [], l => by
  have : (cs.map fun key => ow f (atK [] l key)) = cs.map fun _ => 0 := List.map_congr_left fun s _ => by rw [atK_nil]; rfl
  rw [this]
  have h0 : sumN (cs.map fun _ => 0) = 0 := by
   clear hn this
   induction cs with
   | nil => rfl
   | cons c cs ih => simp only [List.map_cons, sumN, ih]
  omega
 | k :: ks, [] => by
  have : (cs.map fun key => ow f (atK (k :: ks) [] key)) = cs.map fun _ => 0 := List.map_congr_left fun s _ => by rw [atK_nil2]; rfl
  rw [this]
  have h0 : sumN (cs.map fun _ => 0) = 0 := by
   clear hn this
   induction cs with
   | nil => rfl
   | cons c cs ih => simp only [List.map_cons, sumN, ih]
  omega
 | k :: ks, y :: l => by
  have h1 : (cs.map fun key => ow f (atK (k :: ks) (y :: l) key)) = cs.map fun key => if k = key then f y else ow f (atK ks l key) := List.map_congr_left fun s _ => by
   rw [atK_cons]
   by_cases h : k = s
   ·rw [if_pos h, if_pos h]; rfl
   rw [if_neg h, if_neg h]
  rw [h1]
  have h2 := sumN_ite k (f y) (fun key => ow f (atK ks l key)) cs hn
  have h3 := sumN_at f cs hn ks l
  simp only [List.map_cons, sumN]
  omega
theorem sumN_app (a b : List Nat) : sumN (a ++ b) = sumN a + sumN b := by
 induction a with
 | nil => simp [sumN]
 | cons x a ih => simp only [List.cons_append, sumN, ih]; omega
theorem sumN_keys (g : ByteArray → Nat) : ∀ (cs l : List ByteArray), cs.Nodup → (∀ s ∈ cs, s ∈ l) → sumN (cs.map g) ≤ sumN (l.map g)
 | [], l, _, _ => by simp [sumN]
 | c :: cs, l, hn, hs => by
  have h' := List.nodup_cons.1 hn
  obtain ⟨l1, l2, rfl⟩ := List.append_of_mem (hs c (List.mem_cons_self ..))
  have h1 := sumN_keys g cs (l1 ++ l2) h'.2 fun s hm => by
   have := hs s (List.mem_cons_of_mem _ hm)
   rw [List.mem_append, List.mem_cons] at this
   rw [List.mem_append]
   rcases this with h | rfl | h
   ·exact .inl h
   ·exact absurd hm h'.1
   exact .inr h
  simp only [List.map_append, List.map_cons, sumN_app, sumN] at h1 ⊢
  omega
theorem keyed_weight {f : JV → Nat} {F : ByteArray → Option JV} {a b : ByteArray → Nat} (h : ∀ key, ow f (F key) ≤ a key + b key) : ∀ cs, sumN ((keyed F cs).map fun p => f p.2) ≤ sumN (cs.map a) + sumN (cs.map b)
 | [] => by simp [keyed, sumN]
 | c :: cs => by
  have h1 := keyed_weight h cs
  have h2 := h c
  simp only [List.map_cons, sumN]
  unfold keyed at h1 ⊢
  rw [List.filterMap_cons]
  cases hc : F c with
  | none => simp only [Option.map_none]; omega
  | some x =>
   rw [hc] at h2
   simp only [Option.map_some, List.map_cons, sumN]
   have : ow f (some x) = f x := rfl
   omega
theorem keyed_keys (F : ByteArray → Option JV) (cs : List ByteArray) : ((keyed F cs).map (·.1)).Sublist cs := by
 induction cs with
 | nil => exact .slnil
 | cons c cs ih =>
  unfold keyed at ih ⊢
  rw [List.filterMap_cons]
  cases F c with
  | none => exact ih.cons c
  | some x => exact ih.cons_cons c
theorem ltS_nodup {ks : List ByteArray} (h : ks.Pairwise ltS) : ks.Nodup := h.imp fun {a b} h1 (e : a = b) => by rw [e] at h1; exact ltS_irrefl b h1
theorem ow_mem {f : JV → Nat} {c : Nat} {g : ByteArray → Nat} (hw : Weight f c g) (o : Option JV) : sumN ((mem2 o).1.map g) + sumN ((mem2 o).2.map f) ≤ ow f o := by
 cases o with
 | none => simp [mem2, sumN]
 | some j =>
  cases j <;> first
   | (simp [mem2, sumN]; done)
   | (show _ ≤ f _; rw [hw.obj]; simp only [mem2]; omega)
end Go.Json
namespace Go.Proofs.YtdmcioghdindfaaGreatDoor
open Go Go.RowKit Go.Aff Go.Json
attribute [local go_sem] Oper.semAt_some
def ORAt (D : Nat → Prop) (w : World) (v : List Value) : Option JV → Prop
 | none => v = valZ
 | some j => RAt D w v j
def osort : Option JV → Int
 | none => 0
 | some j => j.sort
section
variable {D C : Nat → Prop} {w w' : World} {v : List Value} {o : Option JV}
theorem ORAt.stay (h : ORAt D w v o) (k : Keeps (fun _ => False) w w') : ORAt D w' v o := by
 cases o with
 | none => exact h
 | some j => exact RAt.stay h k
theorem ORAt.keep {F : Nat → Prop} (h : ORAt D w v o) (k : Keeps F w w') (hF : ∀ i, D i → ¬ F i) : ORAt D w' v o := by
 cases o with
 | none => exact h
 | some j => exact RAt.keep h k hF
theorem ORAt.mono (h : ORAt D w v o) (hC : ∀ i, D i → i < w.heap.size → C i) : ORAt C w v o := by
 cases o with
 | none => exact h
 | some j => exact RAt.mono h hC
theorem ORAt.len (h : ORAt D w v o) : v.length = 6 := by
 cases o with
 | none => rw [h]; rfl
 | some j => exact RAt.len h
theorem ORAt.one (h : ORAt D w v o) : ∀ u ∈ v, u.oneCell' = true := by
 cases o with
 | none =>
  have h' : v = valZ := h
  subst h'
  intro u hu
  simp only [valZ, List.mem_cons, List.not_mem_nil, or_false] at hu
  rcases hu with rfl | rfl | rfl | rfl | rfl | rfl <;> rfl
 | some j => exact RAt.one h
theorem ORAt.six (h : ORAt D w v o) : ∃ u1 u2 u3 A na c B nb d, v = [.int .i64 (osort o), .bool u1, .int .u64 u2, .string u3, .slice A na c, .slice B nb d] := by
 cases o with
 | none => exact ⟨_, _, _, _, _, _, _, _, _, h⟩
 | some j =>
  obtain ⟨A, c, B, d, cs, hv, _⟩ := RAt.form h
  exact ⟨_, _, _, A, _, c, B, _, d, hv⟩
end
theorem osort_obj {o : Option JV} (h : osort o = 6) : ∃ ks l, o = some (.obj ks l) := by
 cases o with
 | none => simp [osort] at h
 | some j =>
  obtain ⟨ks, l, rfl⟩ := JOk.obj_of (show j.sort = 6 from h)
  exact ⟨ks, l, rfl⟩
theorem mem2_none {o : Option JV} (h : osort o ≠ 6) : mem2 o = ([], []) := by
 cases o with
 | none => rfl
 | some j => cases j <;> first | rfl | exact absurd rfl h
theorem idxZ_atK {ks : List ByteArray} {l : List JV} {key : ByteArray} : (idxZ ks key = -1 ∧ atK ks l key = none) ∨ ∃ i : Nat, idxZ ks key = i ∧ ks[i]? = some key ∧ atK ks l key = l[i]? := by
 unfold idxZ atK
 cases h : ks.findIdx? fun k => decide (k = key) with
 | none => exact .inl ⟨rfl, rfl⟩
 | some i =>
  refine .inr ⟨i, rfl, ?_, rfl⟩
  obtain ⟨hi, he, _⟩ := List.findIdx?_eq_some_iff_getElem.1 h
  rw [List.getElem?_eq_getElem hi]
  simpa using he
def ORPost (D : Nat → Prop) (w : World) (o : Option JV) (e : Ending) (w' : World) : Prop := ∃ v', e = .returned (.agg v'.toArray) ∧ ORAt D w' v' o ∧ Keeps (fun _ => False) w w'
theorem rget_any {D : Nat → Prop} (w : World) (v : List Value) (o : Option JV) (h : ORAt D w v o) (hl : (mem2 o).1.length = (mem2 o).2.length) (hn : (mem2 o).1.length ≤ 1099511627776) (key : ByteArray) :
  Calls Tryz.prog 41 #[.agg v.toArray, .string key] w (ORPost D w (atK (mem2 o).1 (mem2 o).2 key)) := by
 obtain ⟨u1, u2, u3, A, na, c, B, nb, d, hv⟩ := h.six
 obtain ⟨so, hso⟩ : ∃ so, so = osort o := ⟨_, rfl⟩
 rw [← hso] at hv
 subst hv
 have h := h.mono (C := fun i => D i ∧ i < w.heap.size) fun i h1 h2 => ⟨h1, h2⟩
 have HH := H_ h
 have hb1 := (Blk.new w 31 [.int .i64 so, .bool u1, .int .u64 u2, .string u3, .slice A na c, .slice B nb d]).alloc (.cells #[.int .i64 0, .bool false, .int .u64 0, .string .empty, .slice none 0 0, .slice none 0 0] 31)
 have c0 := hb1.cell 0
 have c1 := hb1.cell 1
 have c2 := hb1.cell 2
 have c3 := hb1.cell 3
 have c4 := hb1.cell 4
 have c5 := hb1.cell 5
 have hb2 := Blk.new (w.alloc (.cells #[.int .i64 so, .bool u1, .int .u64 u2, .string u3, .slice A na c, .slice B nb d] 31)) 31 [.int .i64 0, .bool false, .int .u64 0, .string .empty, .slice none 0 0, .slice none 0 0]
 rw [World.size_alloc] at hb2
 have f0 := hb2.frozen 0
 have f1 := hb2.frozen 1
 have f2 := hb2.frozen 2
 have f3 := hb2.frozen 3
 have f4 := hb2.frozen 4
 have f5 := hb2.frozen 5
 have HK := H_ (((Keeps.refl (fun _ => False) w).alloc (.cells #[.int .i64 so, .bool u1, .int .u64 u2, .string u3, .slice A na c, .slice B nb d] 31)).alloc (.cells #[.int .i64 0, .bool false, .int .u64 0, .string .empty, .slice none 0 0, .slice none 0 0] 31))
 obtain ⟨b2, hbb2⟩ : ∃ b2, b2 = w.heap.size + 1 := ⟨_, rfl⟩
 by_cases h6 : so = 6
 ·have hne : (so != 6) = false := by rw [h6]; rfl
  obtain ⟨ks, l, ho⟩ := osort_obj (hso ▸ h6)
  subst ho
  have HFI : Hid (∀ W, Keeps (fun _ => False) w W → Calls Tryz.prog 70 #[.agg #[.int .i64 so, .bool u1, .int .u64 u2, .string u3, .slice A na c, .slice B nb d], .string key] W fun e w' => e = .returned (.int .i64 (idxZ ks key)) ∧ Keeps (fun _ => False) W w') := H_ fun W hW => rfind_any W _ (.obj ks l) (RAt.stay h hW) hn key
  have HB2 := H_ hb2
  have HB1 := H_ hb1
  have HL : Hid (ks.length = l.length) := H_ hl
  obtain ⟨csf, hna, hrow, hits⟩ : ∃ csf : Nat → List Value, na = l.length ∧ RowS w A na csf ∧ ∀ (i : Nat) (x : JV), l[i]? = some x → RAt (fun i => D i ∧ i < w.heap.size) w (csf i) x := by
   obtain ⟨A', c', B', d', cs', hv', hA', _, _, _, hx'⟩ := RAt.form h
   injection hv' with _ hv'
   injection hv' with _ hv'
   injection hv' with _ hv'
   injection hv' with _ hv'
   injection hv' with hv' _
   injection hv' with e1 e2 e3
   subst e1 e2 e3
   exact ⟨cs', rfl, hA', hx'⟩
  have HIT := H_ (And.intro hna (And.intro hrow hits))
  rw [← hbb2] at HB2
  have HBB := H_ hbb2
  clear h hso h6 hl hn hb1 hb2 hna hrow hits f0 f1 f2 f3 f4 f5 hbb2
  have hfz := HB2.out.frozen 0
  go_enter Tryz.func41, Tryz.ntmps41
  go_upto_region 4 with (go_at_call 70; refine (HFI.out _ HK.out).mono ?_; rintro e w3 ⟨rfl, hk3⟩; have HK3 := H_ hk3; clear hk3)
  rw [← HBB.out]
  have h3 := HK3.out.blk HB2.out (fun h => h)
  have h1 := HK3.out.blk HB1.out (fun h => h)
  have x4 := h1.cell 4
  have d0 := h3.cell 0
  have d1 := h3.cell 1
  have d2 := h3.cell 2
  have d3 := h3.cell 3
  have d4 := h3.cell 4
  have d5 := h3.cell 5
  have e0 := h3.frozen 0
  have e1 := h3.frozen 1
  have e2 := h3.frozen 2
  have e3 := h3.frozen 3
  have e4 := h3.frozen 4
  have e5 := h3.frozen 5
  have HZ3 := H_ h3
  have HX := H_ (And.intro HIT.out HL.out)
  clear h3 h1 hfz c0 c1 c2 c3 c4 c5 hne
  have HKW := H_ (HK.out.trans HK3.out fun _ _ h => h)
  have HEND : Hid (∀ (v0 v1 v2 v3 v4 v5 : Value) (o' : Option JV), ORAt (fun i => D i ∧ i < w.heap.size) w3 [v0, v1, v2, v3, v4, v5] o' → Blk (sixSet w3 b2 v0 v1 v2 v3 v4 v5) b2 31 [v0, v1, v2, v3, v4, v5] ∧ ORPost D w o' (.returned (.agg #[v0, v1, v2, v3, v4, v5])) (sixSet w3 b2 v0 v1 v2 v3 v4 v5)) := H_ fun v0 v1 v2 v3 v4 v5 o' ho' => by
   have hk6 := six_keeps w3 b2 v0 v1 v2 v3 v4 v5
   refine ⟨six_blk HZ3.out _ _ _ _ _ _, [v0, v1, v2, v3, v4, v5], rfl, (ho'.keep hk6 fun i h e => by have := h.2; have := HBB.out; omega).mono fun i h _ => h.1, HKW.out.trans hk6 fun i hi e => by have := HBB.out; omega⟩
  rcases idxZ_atK (ks := ks) (l := l) (key := key) with ⟨hi, ha⟩ | ⟨i, hi, hki, ha⟩
  ·rw [hi]
   have HA := H_ (HEND.out _ _ _ _ _ _ none rfl)
   have HAK : Hid (atK (mem2 (some (JV.obj ks l))).1 (mem2 (some (JV.obj ks l))).2 key = none) := H_ ha
   clear hi ha
   go_wp2
   refine bodyPost_ret (results_blk rfl _ _ rfl HA.out.1 Tryz.underlying31 rfl (by kernel_rfl)) rfl ?_
   rw [HAK.out]
   exact HA.out.2
  rw [hi]
  have HAK : Hid (atK (mem2 (some (JV.obj ks l))).1 (mem2 (some (JV.obj ks l))).2 key = l[i]?) := H_ ha
  have hin : i < l.length := by rw [← HX.out.2]; exact (List.getElem?_eq_some_iff.1 hki).1
  obtain ⟨x, hx⟩ : ∃ x, l[i]? = some x := ⟨_, List.getElem?_eq_getElem hin⟩
  rw [← HX.out.1.1] at hin
  obtain ⟨g, o2, hAe, hrg0⟩ := HX.out.1.2.1 (by omega)
  subst hAe
  have hrx := (HX.out.1.2.2 i x hx).stay HKW.out
  have hrg : w3.rangeAt g (o2 + i * 6) (csf i) := fun q u hu => cell_keep HKW.out (hrg0 i hin q u hu)
  obtain ⟨t1, t2, t3, A6, m6, c6, B6, n6, d6, hv5⟩ := ORAt.six (o := some x) hrx
  rw [hv5] at hrx hrg
  obtain ⟨t0, ht0⟩ : ∃ t0, t0 = osort (some x) := ⟨_, rfl⟩
  rw [← ht0] at hrx hrg
  have r0 : w3.cell? ⟨g, o2 + i * 6, none⟩ = some (.int .i64 t0) := by have := hrg 0 _ rfl; simpa using this
  have r1 := hrg 1 _ rfl
  have r2 := hrg 2 _ rfl
  have r3 := hrg 3 _ rfl
  have r4 := hrg 4 _ rfl
  have r5 := hrg 5 _ rfl
  have HA := H_ (HEND.out _ _ _ _ _ _ (some x) hrx)
  have HXI := H_ hx
  have hi63 : (0 : Int) ≤ (i : Int) := by omega
  have hiN : (i : Int) < (na : Int) := by omega
  clear hi ha hki hx hrg0 hrx hrg hv5 hin ht0
  go_wp2
  refine bodyPost_ret (results_blk rfl _ _ rfl HA.out.1 Tryz.underlying31 rfl (by kernel_rfl)) rfl ?_
  rw [HAK.out, HXI.out]
  exact HA.out.2
 have hne : (so != 6) = true := by simpa using h6
 have HM : Hid (atK (mem2 o).1 (mem2 o).2 key = none) := H_ (by rw [mem2_none (by rw [← hso]; exact h6), atK_nil])
 have HB2 := H_ hb2
 clear h hso h6 hl hn hb1 hb2 hbb2
 go_enter Tryz.func41, Tryz.ntmps41
 go_wp2
 refine bodyPost_ret (results_blk rfl _ _ rfl HB2.out Tryz.underlying31 rfl (by kernel_rfl)) rfl ⟨_, rfl, by rw [HM.out]; rfl, HK.out⟩
end Go.Proofs.YtdmcioghdindfaaGreatDoor
namespace Go.Json
theorem maxN_sum {α : Type} (f g : α → Nat) (l : List α) (h : ∀ x ∈ l, f x ≤ g x) : maxN (l.map f) ≤ sumN (l.map g) := by
 induction l with
 | nil => exact Nat.le_refl _
 | cons x l ih =>
  have h1 := h x (List.mem_cons_self ..)
  have h2 := ih fun y hy => h y (List.mem_cons_of_mem _ hy)
  simp only [List.map_cons, maxN, sumN]; omega
theorem deep_le : ∀ j : JV, j.deep ≤ j.nodes := by
 refine JV.by_parts fun j ih => ?_
 rw [JV.deep_eq, JV.nodes_eq]
 have := maxN_sum (fun x : JV => x.deep) (fun x => x.nodes) j.items ih
 omega
theorem small_of {j : JV} (h1 : j.nodes ≤ 1048576) (h2 : j.bytes ≤ 1099511627776) : SmallJ j := ⟨by omega, by omega, by have := deep_le j; omega⟩
end Go.Json
namespace Go.Aff
open Go Go.RowKit
theorem wpList_load_whole_g {P : Program} {w : World} {g : Nat} {t : TypeId} {cs : List Value} {ops : Array Oper} {rest : List Oper} {o : Oper} {a : Act} {Q : Exit → Act → World → Prop} (hgd : Region.wanted o (yielded ops a.tmps) = true) (ty : TypeId) (x : Operand) (ho : o.op = .load ty x)
  (d : TypeDesc) (hx : a.eval x = .pointer (some ⟨g, 0, none⟩)) (hg : Blk w g t cs)
  (hu : P.underlying ty = some d) (hd : (match d with | .struct _ | .array _ _ => true | _ => false) = true) (hi : (P.info? ty).map (·.size) = some cs.length)
  (h : wpList P ops Q rest (a.put o.dst (.agg cs.toArray)) w) : wpList P ops Q (o :: rest) a w :=
 wpList_step fun _ hK => by
  rw [if_pos hgd]
  unfold Oper.wp execOp
  simp only [ho, hx, Instr.loadAt, Instr.sureAddr, Sem.run_bind, Sem.run_pure, Result.andThen_ok, run_loadVar_row w g t ty cs.toArray (0, 0) d hg hu hd (by simpa using hi)]
  exact hK _ _ h
end Go.Aff
namespace Go.Proofs.YtdmcioghdindfaaGreatDoor
open Go Go.RowKit Go.Aff Go.Json
attribute [local go_sem] Oper.semAt_some
theorem infoVal6 {v : List Value} (h : v.length = 6) : (Tryz.prog.info? 31).map (·.size) = some v.length := by rw [h]; kernel_rfl
theorem errno_three (w : World) : Calls Tryz.prog 12 #[errE 3, .int .i64 3] w fun e w' => e = .returned (.bool true) ∧ w' = w := by
 have HA := as_errno_errno
 unfold errE
 go_enter Tryz.func12, Tryz.ntmps12
 go_wp2
 go_ret
 exact ⟨rfl, rfl⟩
end Go.Proofs.YtdmcioghdindfaaGreatDoor
namespace Go.Proofs
open Go.Shelf
def Tryz.lays194_ren : Go.Shelf.Ren := ⟨fun | 194 => 62 | n => n, fun | 31 => 29 | 9 => 9 | 3 => 3 | 4 => 4 | 0 => 0 | n => n, fun | n => n⟩
theorem Tryz.lays194 : Go.Proofs.Lays.n194 Tryz.prog Tryz.lays194_ren := {
 mixed := by kernel_rfl
 f194 := Tryz.func62.trans (congrArg some (by kernel_rfl))
 t0 := Tryz.underlying0
 a0 := Tryz.isAgg0
 z0 := Tryz.sizeOf0
 v0 := Tryz.zeroValue0
 t3 := Tryz.underlying3
 a3 := Tryz.isAgg3
 z3 := Tryz.sizeOf3
 v3 := Tryz.zeroValue3
 t4 := Tryz.underlying4
 a4 := Tryz.isAgg4
 z4 := Tryz.sizeOf4
 v4 := Tryz.zeroValue4
 t9 := Tryz.underlying9
 a9 := Tryz.isAgg9
 z9 := Tryz.sizeOf9
 v9 := Tryz.zeroValue9
 t31 := Tryz.underlying29
 a31 := Tryz.isAgg29
 z31 := Tryz.sizeOf29
 v31 := Tryz.zeroValue29 }
open Go.RowKit Go.Lib Go.Sort in
theorem Tryz.slices_Compact_string_cells (b off n c : Nat) (Sx : Nat → ByteArray) (w : World) (hbig : n ≤ 9223372036854775807) (hcap : n ≤ c) (hc : ∀ i, i < n → w.cell? ⟨b, off + i, none⟩ = some (.string (Sx i))) (hf : ∀ j, j < n → w.frozen? ⟨b, off + j, none⟩ = false) :
  Calls Tryz.prog 62 #[.slice (some ⟨b, off, none⟩) n c] w fun e w' => e = .returned (.slice (some ⟨b, off, none⟩) (Lib.compact (Lib.strsOf Sx n)).length c) ∧ ∃ q, w' = (w.drewN q).setCells b off ((Lib.compact (Lib.strsOf Sx n) ++ List.replicate (n - (Lib.compact (Lib.strsOf Sx n)).length) []).map encStr) := Any.slices_Compact_string_cells Tryz.lays194 b off n c Sx w hbig hcap hc hf
end Go.Proofs
namespace Go.Proofs.YtdmcioghdindfaaGreatDoor
open Go Go.RowKit Go.Aff Go.Json Go.Rng Go.Shelf
attribute [local go_sem] Oper.semAt_some
theorem as_whole_whole (v : Value) (w : World) : (Instr.typeAssert (.iface 150 v) 71 150 true).run Tryz.prog w = .ok (.tuple #[v, .bool true]) w := by kernel_rfl
theorem as_mobj_whole (v : Value) (w : World) : (Instr.typeAssert (.iface 73 v) 71 150 true).run Tryz.prog w = .ok (.tuple #[.agg #[.nilIface], .bool false]) w := by kernel_rfl
theorem as_whole_mobj (v : Value) (w : World) : (Instr.typeAssert (.iface 150 v) 71 73 true).run Tryz.prog w = .ok (.tuple #[.pointer none, .bool false]) w := by kernel_rfl
theorem as_mobj_mobj (v : Value) (w : World) : (Instr.typeAssert (.iface 73 v) 71 73 true).run Tryz.prog w = .ok (.tuple #[v, .bool true]) w := by kernel_rfl
end Go.Proofs.YtdmcioghdindfaaGreatDoor
namespace Go.Json
open Go.Utf
theorem lex_zero : ∀ {a b : List Int}, lexR a b = 0 → a = b
 | [], [], _ => rfl
 | [], _ :: _, h => by simp [lexR] at h
 | _ :: _, [], h => by simp [lexR] at h
 | x :: a, y :: b, h => by
  unfold lexR at h
  split at h
  ·omega
  split at h
  ·omega
  rw [lex_zero h, show x = y by omega]
theorem cmp_zero {a b : ByteArray} (ha : rightS a = true) (hb : rightS b = true) : cmpB (sb a) (sb b) = 0 ↔ a = b := by
 constructor
 ·intro h
  rcases ltS_tri ha hb with h1 | h1 | h1
  ·have := (cmp_lt ha hb).2 h1; omega
  ·exact h1
  have h2 := (cmp_lt hb ha).2 h1
  rw [cmp_eq ha hb] at h
  rw [cmp_eq hb ha, ← lex_zero h, lex_self] at h2
  omega
 intro h
 rw [h, cmp_eq hb hb, lex_self]
theorem place_at {ks : List ByteArray} {key : ByteArray} {i : Nat} (hp : ks.Pairwise ltS) (h1 : ∀ t s, t < i → ks[t]? = some s → ltS s key) (h2 : ∀ s, ks[i]? = some s → ¬ ltS s key ∧ s ≠ key) : key ∉ ks := by
 intro hm
 obtain ⟨t, ht⟩ := List.getElem?_of_mem hm
 rcases Nat.lt_trichotomy t i with h | h | h
 ·exact ltS_irrefl key (h1 t key h ht)
 ·subst h; exact (h2 key ht).2 rfl
 obtain ⟨s, hs⟩ : ∃ s, ks[i]? = some s := ⟨_, List.getElem?_eq_getElem (Nat.lt_trans h (List.getElem?_eq_some_iff.1 ht).1)⟩
 have hlt := List.pairwise_iff_getElem.1 hp i t (List.getElem?_eq_some_iff.1 hs).1 (List.getElem?_eq_some_iff.1 ht).1 h
 rw [(List.getElem?_eq_some_iff.1 hs).2, (List.getElem?_eq_some_iff.1 ht).2] at hlt
 exact (h2 s hs).1 hlt
end Go.Json
namespace Go.Proofs.YtdmcioghdindfaaGreatDoor
open Go Go.RowKit Go.Aff Go.Json Go.Rng Go.Shelf Go.Utf
attribute [local go_sem] Oper.semAt_some
def FindPost (w : World) (ks : List ByteArray) (key : ByteArray) (e : Ending) (w' : World) : Prop := ∃ (i : Nat) (f : Bool), e = .returned (.tuple #[.int .i64 i, .bool f]) ∧ (f = true → ks[i]? = some key) ∧ (f = false → key ∉ ks) ∧ Keeps (fun _ => False) w w'
theorem search_any (w : World) (B : Option Addr) (n d : Nat) (ks : List ByteArray) (hr : Rd w B n (ks.map .string)) (hp : ks.Pairwise ltS) (hright : ∀ s ∈ ks, rightS s = true ∧ s.size ≤ 1152921504606846976) (key : ByteArray) (hkey : rightS key = true ∧ key.size ≤ 1152921504606846976) (hn : n ≤ 1048576) :
  Calls Tryz.prog 106 #[.slice B n d, .string key, .func (.func 61) #[] #[]] w (FindPost w ks key) := by
 have hkl : ks.length = n := by simpa using hr.1
 have HR := H_ hr
 have HP := H_ (And.intro hp hkl)
 have HRI := H_ hright
 have hent : ∀ args w, (callFunc 61 args).run Tryz.prog w = .ok (.enter 61 args) w := enters_of Tryz.func61 (by kernel_rfl) rfl
 have HC : Hid (∀ W s, s ∈ ks → Calls Tryz.prog 61 #[.string s, .string key] W fun e w' => e = .returned (.int .i64 (cmpB (sb s) (sb key))) ∧ Hid (Keeps (fun _ => False) W w')) := H_ fun W s hs =>
  (compare_any W s key (hright s hs).1 hkey.1 (hright s hs).2 hkey.2).mono fun _ _ h => ⟨h.1, H_ h.2.keeps⟩
 have HKY := H_ hkey
 clear hr hp hright hkey hkl
 go_enter Tryz.func106, Tryz.ntmps106
 go_wp2
 go_loopg [9, 10] n (fun kx s9 s10 wr => ∃ lo hi : Nat, s9 = .int .i64 lo ∧ s10 = .int .i64 hi ∧ lo ≤ hi ∧ hi ≤ n ∧ hi - lo ≤ kx ∧ Hid (Keeps (fun _ => False) w wr) ∧ Hid ((∀ t s, t < lo → ks[t]? = some s → ltS s key) ∧ (∀ t s, hi ≤ t → ks[t]? = some s → ¬ ltS s key)))
 case atStart => exact ⟨0, n, rfl, rfl, Nat.zero_le _, Nat.le_refl _, by omega, H_ (Keeps.refl _ _), H_ ⟨fun t s ht => absurd ht (Nat.not_lt_zero _), fun t s h1 h2 => by have := (List.getElem?_eq_some_iff.1 h2).1; have := HP.out.2; omega⟩⟩
 case round =>
  obtain ⟨lo, hi, rfl, rfl, hlh, hin, hg, HK, HI⟩ := hrel
  by_cases hlt : lo < hi
  ·obtain ⟨g, o, s, hB, hs, hcs⟩ := textAt (HR.out.keep HK.out (fun _ _ _ h => h)) (j := (lo + hi) / 2) (by omega)
   subst hB
   have hc := HC.out wr s (List.mem_of_getElem? hs)
   have HS := H_ hs
   have hleft : ∀ t u, t < (lo + hi) / 2 → ks[t]? = some u → ltS u s := fun t u ht hu => by
    have h1 := List.pairwise_iff_getElem.1 HP.out.1 t _ (List.getElem?_eq_some_iff.1 hu).1 (List.getElem?_eq_some_iff.1 hs).1 ht
    rwa [(List.getElem?_eq_some_iff.1 hu).2, (List.getElem?_eq_some_iff.1 hs).2] at h1
   have hright : ∀ t u, (lo + hi) / 2 < t → ks[t]? = some u → ltS s u := fun t u ht hu => by
    have h1 := List.pairwise_iff_getElem.1 HP.out.1 _ t (List.getElem?_eq_some_iff.1 hs).1 (List.getElem?_eq_some_iff.1 hu).1 ht
    rwa [(List.getElem?_eq_some_iff.1 hu).2, (List.getElem?_eq_some_iff.1 hs).2] at h1
   have HLR := H_ (And.intro hleft hright)
   obtain ⟨z, hz⟩ : ∃ z, z = cmpB (sb s) (sb key) := ⟨_, rfl⟩
   have HZ : Hid (z < 0 ↔ ltS s key) := H_ (by rw [hz]; exact cmp_lt (HRI.out s (List.mem_of_getElem? hs)).1 HKY.out.1)
   rw [← hz] at hc
   clear hs hz hleft hright
   by_cases hyx : z < 0
   ·have HL : Hid (ltS s key) := H_ (HZ.out.1 hyx)
    go_wp2_with (go_at_fn 61; refine hc.mono ?_; rintro e w2 ⟨rfl, HK2⟩)
    go_roundg (hi - ((lo + hi) / 2 + 1))
    case measure => omega
    case rel =>
     have HI2 : Hid ((∀ t s, t < (lo + hi) / 2 + 1 → ks[t]? = some s → ltS s key) ∧ (∀ t s, hi ≤ t → ks[t]? = some s → ¬ ltS s key)) := H_ ⟨fun t u ht hu => by
      rcases Nat.lt_or_ge t ((lo + hi) / 2) with h | h
      ·exact ltS_trans (HLR.out.1 t u h hu) HL.out
      obtain rfl : t = (lo + hi) / 2 := by omega
      rw [HS.out] at hu; injection hu with hu; rw [← hu]; exact HL.out, HI.out.2⟩
     exact ⟨(lo + hi) / 2 + 1, hi, by rw [show ((lo : Int) + (hi : Int)) / 2 + 1 = (((lo + hi) / 2 + 1 : Nat) : Int) by omega], rfl, by omega, hin, Nat.le_refl _, H_ (HK.out.trans HK2.out fun _ _ h => h), HI2⟩
   have HL : Hid (¬ ltS s key) := H_ fun h => hyx (HZ.out.2 h)
   go_wp2_with (go_at_fn 61; refine hc.mono ?_; rintro e w2 ⟨rfl, HK2⟩)
   go_roundg ((lo + hi) / 2 - lo)
   case measure => omega
   case rel =>
    have HI2 : Hid ((∀ t s, t < lo → ks[t]? = some s → ltS s key) ∧ (∀ t s, (lo + hi) / 2 ≤ t → ks[t]? = some s → ¬ ltS s key)) := H_ ⟨HI.out.1, fun t u ht hu h => by
     rcases Nat.lt_or_ge ((lo + hi) / 2) t with h2 | h2
     ·exact HL.out (ltS_trans (HLR.out.2 t u h2 hu) h)
     obtain rfl : t = (lo + hi) / 2 := by omega
     rw [HS.out] at hu; injection hu with hu; rw [← hu] at h; exact HL.out h⟩
    exact ⟨lo, (lo + hi) / 2, rfl, by rw [show ((lo : Int) + (hi : Int)) / 2 = (((lo + hi) / 2 : Nat) : Int) by omega], by omega, by omega, Nat.le_refl _, H_ (HK.out.trans HK2.out fun _ _ h => h), HI2⟩
  obtain rfl : hi = lo := by omega
  by_cases hnn : hi < n
  ·obtain ⟨g, o, s, hB, hs, hcs⟩ := textAt (HR.out.keep HK.out (fun _ _ _ h => h)) (j := hi) hnn
   subst hB
   have hc := HC.out wr s (List.mem_of_getElem? hs)
   obtain ⟨z, hz⟩ : ∃ z, z = cmpB (sb s) (sb key) := ⟨_, rfl⟩
   have HZ : Hid (z = 0 ↔ s = key) := H_ (by rw [hz]; exact cmp_zero (HRI.out s (List.mem_of_getElem? hs)).1 HKY.out.1)
   rw [← hz] at hc
   have HS := H_ hs
   clear hs hz
   go_wp2_with (go_at_fn 61; refine hc.mono ?_; rintro e w2 ⟨rfl, HK2⟩)
   go_ret2
   refine ⟨hi, z == 0, rfl, fun h => ?_, fun h => ?_, HK.out.trans HK2.out fun _ _ h => h⟩
   ·rw [HS.out, HZ.out.1 (by simpa using h)]
   refine place_at HP.out.1 HI.out.1 fun u hu => ⟨HI.out.2 hi u (Nat.le_refl _) hu, ?_⟩
   rw [HS.out] at hu
   injection hu with hu
   rw [← hu]
   exact fun e => by rw [HZ.out.2 e] at h; simp at h
  go_wp2
  go_ret2
  refine ⟨hi, false, rfl, fun h => by simp at h, fun _ => place_at HP.out.1 HI.out.1 fun u hu => absurd (List.getElem?_eq_some_iff.1 hu).1 (by have := HP.out.2; omega), HK.out⟩
end Go.Proofs.YtdmcioghdindfaaGreatDoor
