/- Texts. -/
import Derived.Test.YtdmcioghdindfaaGreatDoorL28
import Derived.Test.YtdmcioghdindfaaGreatDoorL24
set_option linter.unusedSimpArgs false
set_option maxRecDepth 100000
set_option maxHeartbeats 4000000
namespace Go.Proofs.YtdmcioghdindfaaGreatDoor
open Go Go.RowKit Go.Aff Go.Json
attribute [local go_sem] Oper.semAt_some
def MadeTree (D : Nat → Prop) (w : World) (j : JV) (e : Ending) (w' : World) : Prop :=
 ((∃ q v, e = .returned (.tuple #[.pointer (some ⟨q, 0, none⟩), .nilIface]) ∧ TreeAt (fun i => D i ∨ w.heap.size ≤ i) w' q v j ∧ j.within) ∨ (e = .returned (.tuple #[.pointer none, errE 3]) ∧ ¬ j.within)) ∧ Keeps (fun _ => False) w w'
theorem tree_any {D : Nat → Prop} (w : World) (t : Value) (j : JV) (h : TAt D w t j) (hj : JOk j) (hf : Fit j) (hn : j.nodes ≤ 1048576) (hby : j.bytes ≤ 1099511627776) : Calls Tryz.prog 36 #[t] w (MadeTree D w j) := by
 obtain ⟨p, hp⟩ : ∃ p, p = w.heap.size := ⟨_, rfl⟩
 have hka : Keeps (fun _ => False) w (w.alloc (.cells #[.slice none 0 0] 204)) := (Keeps.refl _ w).alloc _
 have hr : RowAt 204 (fun i => D i ∨ w.heap.size ≤ i) (w.alloc (.cells #[.slice none 0 0] 204)) w.heap.size none 0 [] [] := RowAt.start w fun i hi => .inr hi
 have ht : TAt (fun i => (D i ∨ w.heap.size ≤ i) ∧ i < w.heap.size) (w.alloc (.cells #[.slice none 0 0] 204)) t j := (h.mono fun i hi hl => ⟨.inl hi, hl⟩).stay hka
 obtain ⟨T, y, f, u, htv, hm, he, hcall⟩ := put_inv ht hj hf hby
 subst htv
 have HC : Hid (Calls Tryz.prog f #[u, .pointer (some ⟨w.heap.size, 0, none⟩)] (w.alloc (.cells #[.slice none 0 0] 204)) fun e w' => ∃ z, e = .returned z ∧ PutPost (fun i => D i ∨ w.heap.size ≤ i) (w.alloc (.cells #[.slice none 0 0] 204)) w.heap.size [] j (.returned z) w') :=
  H_ ((hcall _ none 0 [] [] (Keeps.refl _ _) hr (by simpa using hn) (fun j h => by simp at h)).mono fun e w' h => h.ret)
 have HK := H_ hka
 have HN : Hid (Calls Tryz.prog 64 #[] w fun e w' => e = .returned (.pointer (some ⟨w.heap.size, 0, none⟩)) ∧ w' = w.alloc (.cells #[.slice none 0 0] 204)) := H_ (new_any w)
 have HW : Hid (j.nodes ≤ 65536 ∨ ¬ j.within) := H_ (by by_cases h : j.within; exact .inl h.1; exact .inr h)
 unfold Ent at he
 clear h hj hf hn hby hr ht hcall hka hp
 go_enter Tryz.func36, Tryz.ntmps36
 go_upto_region 3 with (first
  | (go_at_call 64; refine HN.out.mono ?_; rintro e w1 ⟨rfl, rfl⟩)
  | (go_at_fn f; refine HC.out.mono ?_; rintro e w2 ⟨z, rfl, hq⟩; have HQ := H_ hq; clear hq))
 obtain ⟨⟨hz, ⟨A3, c3, vs3, hrow⟩, hwx⟩ | ⟨hz, hne⟩, hk2⟩ := HQ.out
 ·injection hz with hz
  subst hz
  have HRW := H_ (And.intro hwx hk2)
  have HT := H_ (tree_one _ w2 _ A3 c3 vs3 j hrow)
  clear hrow hwx hk2 HQ
  go_wp2_with (go_at_call 65; refine HT.out.mono ?_; rintro e w3 ⟨q, v, rfl, ht, hk3⟩)
  go_ret2
  exact ⟨.inl ⟨q, v, rfl, ht, HRW.out.1⟩, (keep_lo HK.out HRW.out.2 fun i h => h).trans hk3 fun _ _ h => h⟩
 injection hz with hz
 subst hz
 have HE := H_ (And.intro hne hk2)
 clear hne hk2 HQ
 unfold errE
 go_wp2
 go_ret2
 exact ⟨.inr ⟨rfl, fun h => HE.out.1 ⟨by have := h.1; simpa using this, h⟩⟩, keep_lo HK.out HE.out.2 fun i h => h⟩
theorem fit_within : ∀ (j : JV), j.within → Fit j := JV.by_items fun j ih hw => .mk j (fun _ => hw) fun _ x hx => ih x hx (item_within hx hw)
theorem MadeTree.from_ {D E : Nat → Prop} {w W w' : World} {j : JV} {e : Ending} (h : MadeTree E W j e w') (k : Keeps (fun _ => False) w W) (hE : ∀ i, E i → D i ∨ w.heap.size ≤ i) : MadeTree D w j e w' := by
 refine ⟨h.1.imp (fun ⟨q, v, he, ht, hw⟩ => ⟨q, v, he, ⟨?_, ht.2.1, ht.2.2.mono fun i hi _ => ?_⟩, hw⟩) id, k.trans h.2 fun _ _ h => h⟩
 ·exact ht.1.elim (hE q) fun h => .inr (Nat.le_trans k.size h)
 exact hi.elim (hE i) fun h => .inr (Nat.le_trans k.size h)
theorem MadeTree.ret {D : Nat → Prop} {w w' : World} {j : JV} {e : Ending} (h : MadeTree D w j e w') : ∃ p x, e = .returned (.tuple #[p, x]) ∧ MadeTree D w j (.returned (.tuple #[p, x])) w' := by
 rcases h with ⟨⟨q, v, rfl, h⟩ | ⟨rfl, h⟩, hk⟩
 ·exact ⟨_, _, rfl, .inl ⟨q, v, rfl, h⟩, hk⟩
 exact ⟨_, _, rfl, .inr ⟨rfl, h⟩, hk⟩
end Go.Proofs.YtdmcioghdindfaaGreatDoor
namespace Go.Json
end Go.Json
namespace Go.Proofs.YtdmcioghdindfaaGreatDoor
open Go Go.RowKit Go.Aff Go.Json
attribute [local go_sem] Oper.semAt_some
end Go.Proofs.YtdmcioghdindfaaGreatDoor
namespace Go.Json
noncomputable def unionK (ks : List ByteArray) : List ByteArray := open Classical in if h : ∃ cs : List ByteArray, cs.Pairwise ltS ∧ ∀ s, s ∈ cs ↔ s ∈ ks then Classical.choose h else []
theorem unionK_eq {ks cs : List ByteArray} (h1 : cs.Pairwise ltS) (h2 : ∀ s, s ∈ cs ↔ s ∈ ks) : unionK ks = cs := by
 have h : ∃ cs : List ByteArray, cs.Pairwise ltS ∧ ∀ s, s ∈ cs ↔ s ∈ ks := ⟨cs, h1, h2⟩
 unfold unionK
 rw [dif_pos h]
 obtain ⟨h3, h4⟩ := Classical.choose_spec h
 exact rising_keys h3 h1 fun s => (h4 s).trans (h2 s).symm
def atK {α : Type} (ks : List ByteArray) (l : List α) (key : ByteArray) : Option α := (ks.findIdx? fun k => decide (k = key)).bind fun i => l[i]?
def mem2 : Option JV → List ByteArray × List JV
 | some (.obj ks l) => (ks, l)
 | _ => ([], [])
def layAt (under : Option JV) (over : Option (JV × (Option JV → JV))) : Option JV := match over with
 | none => under
 | some (y, f) => if y.sort = 1 then none else some (f under)
noncomputable def JV.lay : JV → Option JV → JV
 | .obj ko lo => fun v =>
  let L := lo.map fun y => (y, y.lay)
  let M := (unionK ((mem2 v).1 ++ ko)).filterMap fun key => (layAt (atK (mem2 v).1 (mem2 v).2 key) (atK ko L key)).map fun x => (key, x)
  .obj (M.map (·.1)) (M.map (·.2))
 | p => fun _ => p
theorem lay_whole (p : JV) (v : Option JV) (h : p.sort ≠ 6) : p.lay v = p := by cases p <;> first | exact absurd rfl h | simp [JV.lay]
noncomputable def layM (ko : List ByteArray) (lo : List JV) (v : Option JV) (keys : List ByteArray) : List (ByteArray × JV) := keys.filterMap fun key => (layAt (atK (mem2 v).1 (mem2 v).2 key) (atK ko (lo.map fun y => (y, y.lay)) key)).map fun x => (key, x)
theorem lay_obj (ko : List ByteArray) (lo : List JV) (v : Option JV) : (JV.obj ko lo).lay v = .obj ((layM ko lo v (unionK ((mem2 v).1 ++ ko))).map (·.1)) ((layM ko lo v (unionK ((mem2 v).1 ++ ko))).map (·.2)) := by
 rw [JV.lay]; rfl
theorem atK_map {α β : Type} (ks : List ByteArray) (l : List α) (f : α → β) (key : ByteArray) : atK ks (l.map f) key = (atK ks l key).map f := by
 unfold atK
 cases ks.findIdx? fun k => decide (k = key) with
 | none => rfl
 | some i => simp
theorem JV.by_parts {P : JV → Prop} (h : ∀ j : JV, (∀ x, x ∈ j.items → P x) → P j) : ∀ j, P j :=
 JV.ind (h .null fun x hx => by cases hx) (fun b => h (.flag b) fun x hx => by cases hx) (fun b => h (.num b) fun x hx => by cases hx) (fun s => h (.text s) fun x hx => by cases hx) (fun l ih => h (.list l) ih) (fun ks l ih => h (.obj ks l) ih)
theorem atK_cons {α : Type} (k : ByteArray) (ks : List ByteArray) (y : α) (l : List α) (key : ByteArray) : atK (k :: ks) (y :: l) key = if k = key then some y else atK ks l key := by
 unfold atK
 rw [List.findIdx?_cons]
 by_cases h : k = key
 ·rw [if_pos h, if_pos (decide_eq_true h)]; rfl
 rw [if_neg h, if_neg (by simpa using h)]
 cases ks.findIdx? fun k => decide (k = key) with
 | none => rfl
 | some i => simp
theorem atK_nil {α : Type} (l : List α) (key : ByteArray) : atK [] l key = none := by unfold atK; simp
theorem atK_nil2 {α : Type} (ks : List ByteArray) (key : ByteArray) : atK ks ([] : List α) key = none := by
 unfold atK
 cases ks.findIdx? fun k => decide (k = key) with
 | none => rfl
 | some i => simp
theorem atK_zip {α : Type} {ks : List ByteArray} (hp : ks.Pairwise ltS) : ∀ (l : List α) (key : ByteArray) (x : α), atK ks l key = some x ↔ (key, x) ∈ ks.zip l := by
 induction ks with
 | nil => intro l key x; simp [atK_nil]
 | cons k ks ih =>
  intro l key x
  cases l with
  | nil => simp [atK_nil2]
  | cons y l =>
   have hp' := List.pairwise_cons.1 hp
   rw [atK_cons, List.zip_cons_cons, List.mem_cons]
   by_cases h : k = key
   ·subst h
    rw [if_pos rfl]
    constructor
    ·intro e; injection e with e; subst e; exact .inl rfl
    rintro (e | e)
    ·injection e with _ e; rw [e]
    exact absurd (hp'.1 k (List.of_mem_zip e).1) (ltS_irrefl k)
   rw [if_neg h, ih hp'.2]
   constructor
   ·exact .inr
   rintro (e | e)
   ·injection e with e; exact absurd e.symm h
   exact e
theorem rising_fst {l : List (ByteArray × JV)} (h : Rising l) : (l.map (·.1)).Pairwise ltS := List.pairwise_map.2 h
theorem union_ex (ks : List ByteArray) (hr : ∀ k ∈ ks, rightS k = true) : ∃ cs : List ByteArray, cs.Pairwise ltS ∧ ∀ s, s ∈ cs ↔ s ∈ ks := by
 induction ks with
 | nil => exact ⟨[], .nil, fun s => Iff.rfl⟩
 | cons k ks ih =>
  obtain ⟨cs, h1, h2⟩ := ih fun s hs => hr s (List.mem_cons_of_mem _ hs)
  by_cases hk : k ∈ cs
  ·refine ⟨cs, h1, fun s => ?_⟩
   rw [h2 s, List.mem_cons]
   constructor
   ·exact .inr
   rintro (rfl | h)
   ·exact (h2 _).1 hk
   exact h
  have hm : (cs.map fun s => (s, JV.null)).map (·.1) = cs := by rw [List.map_map]; exact List.map_id _
  have hR : Rising (cs.map fun s => (s, JV.null)) := by
   have h : ((cs.map fun s => (s, JV.null)).map (·.1)).Pairwise ltS := by rw [hm]; exact h1
   exact List.pairwise_map.1 h
  have hdis : ∀ q ∈ (cs.map fun s => (s, JV.null)), ltS k q.1 ∨ ltS q.1 k := fun q hq => by
   obtain ⟨s, hs, rfl⟩ := List.mem_map.1 hq
   rcases ltS_tri (hr k (List.mem_cons_self ..)) (hr s (List.mem_cons_of_mem _ ((h2 s).1 hs))) with h | h | h
   ·exact .inl h
   ·exact absurd (h ▸ hs) hk
   exact .inr h
  have hins : Rising (insM (k, JV.null) (cs.map fun s => (s, JV.null))) := insM_rising (k, JV.null) _ hR hdis
  refine ⟨(insM (k, .null) (cs.map fun s => (s, JV.null))).map (·.1), rising_fst hins, fun s => ?_⟩
  have hpm := (insM_perm (k, JV.null) (cs.map fun s => (s, JV.null))).map (·.1)
  rw [List.map_cons, hm] at hpm
  rw [hpm.mem_iff, List.mem_cons, List.mem_cons, h2 s]
theorem unionK_spec {ks : List ByteArray} (hr : ∀ k ∈ ks, rightS k = true) : (unionK ks).Pairwise ltS ∧ ∀ s, s ∈ unionK ks ↔ s ∈ ks := by
 obtain ⟨cs, h1, h2⟩ := union_ex ks hr
 rw [unionK_eq h1 h2]
 exact ⟨h1, h2⟩
theorem atK_some_mem {α : Type} {ks : List ByteArray} {l : List α} {key : ByteArray} {x : α} (hp : ks.Pairwise ltS) (h : atK ks l key = some x) : key ∈ ks ∧ x ∈ l := List.of_mem_zip ((atK_zip hp l key x).1 h)
def keyed (f : ByteArray → Option JV) (cs : List ByteArray) : List (ByteArray × JV) := cs.filterMap fun key => (f key).map fun x => (key, x)
theorem keyed_mem {f : ByteArray → Option JV} {cs : List ByteArray} {p : ByteArray × JV} : p ∈ keyed f cs ↔ p.1 ∈ cs ∧ f p.1 = some p.2 := by
 unfold keyed
 rw [List.mem_filterMap]
 constructor
 ·rintro ⟨k, hk, h⟩
  cases hf : f k with
  | none => rw [hf] at h; cases h
  | some x =>
   rw [hf] at h
   injection h with h
   subst h
   exact ⟨hk, hf⟩
 rintro ⟨h1, h2⟩
 exact ⟨p.1, h1, by rw [h2]; rfl⟩
theorem keyed_rising {f : ByteArray → Option JV} {cs : List ByteArray} (hp : cs.Pairwise ltS) : Rising (keyed f cs) := by
 unfold Rising keyed
 rw [List.pairwise_filterMap]
 refine hp.imp fun {a b} hab p hp q hq => ?_
 cases ha : f a with
 | none => rw [ha] at hp; cases hp
 | some x =>
  cases hb : f b with
  | none => rw [hb] at hq; cases hq
  | some y =>
   rw [ha] at hp; rw [hb] at hq
   injection hp with hp; injection hq with hq
   subst hp; subst hq
   exact hab
noncomputable def layF (ko : List ByteArray) (lo : List JV) (v : Option JV) (key : ByteArray) : Option JV := layAt (atK (mem2 v).1 (mem2 v).2 key) (atK ko (lo.map fun y => (y, y.lay)) key)
theorem layM_eq (ko : List ByteArray) (lo : List JV) (v : Option JV) (cs : List ByteArray) : layM ko lo v cs = keyed (layF ko lo v) cs := rfl
theorem layF_none {ko : List ByteArray} {lo : List JV} {v : Option JV} {key : ByteArray} (h : atK ko lo key = none) : layF ko lo v key = atK (mem2 v).1 (mem2 v).2 key := by
 unfold layF; rw [atK_map, h]; rfl
theorem layF_some {ko : List ByteArray} {lo : List JV} {v : Option JV} {key : ByteArray} {y : JV} (h : atK ko lo key = some y) : layF ko lo v key = if y.sort = 1 then none else some (y.lay (atK (mem2 v).1 (mem2 v).2 key)) := by
 unfold layF; rw [atK_map, h]; rfl
def OOk (o : Option JV) : Prop := ∀ x, o = some x → JOk x
theorem mem2_ok {o : Option JV} (h : OOk o) : (mem2 o).1.length = (mem2 o).2.length ∧ (mem2 o).1.Pairwise ltS ∧ (∀ k ∈ (mem2 o).1, rightS k = true) ∧ ∀ x ∈ (mem2 o).2, JOk x := by
 cases o with
 | none => exact ⟨rfl, .nil, fun k hk => absurd hk List.not_mem_nil, fun x hx => absurd hx List.not_mem_nil⟩
 | some j =>
  have hj := h j rfl
  clear h
  have hf := hj.form
  cases j <;> first
   | exact ⟨rfl, .nil, fun k hk => absurd hk List.not_mem_nil, fun x hx => absurd hx List.not_mem_nil⟩
   | exact ⟨hf.2.1 rfl, hf.2.2.1, hf.2.2.2.1, hf.2.2.2.2.2⟩
theorem at_ok {ks : List ByteArray} {l : List JV} {key : ByteArray} (hp : ks.Pairwise ltS) (h : ∀ x ∈ l, JOk x) : OOk (atK ks l key) := fun x hx => h x (atK_some_mem hp hx).2
section
variable {ko : List ByteArray} {lo : List JV} {v : Option JV}
theorem lay_union (hj : JOk (.obj ko lo)) (hv : OOk v) : (unionK ((mem2 v).1 ++ ko)).Pairwise ltS ∧ ∀ s, s ∈ unionK ((mem2 v).1 ++ ko) ↔ s ∈ (mem2 v).1 ++ ko :=
 unionK_spec fun k hk => (List.mem_append.1 hk).elim ((mem2_ok hv).2.2.1 k) (hj.form.2.2.2.1 k)
end
theorem JOk.obj {ks : List ByteArray} {l : List JV} (hl : ks.length = l.length) (hp : ks.Pairwise ltS) (hr : ∀ k ∈ ks, rightS k = true) (h : ∀ x ∈ l, JOk x) : JOk (.obj ks l) :=
 .mk _ (by show ks.length ≤ l.length; omega) (fun _ => hl) hp hr (by show rightS ByteArray.empty = true; decide) h
theorem lay_ok : ∀ (p : JV), JOk p → ∀ o, OOk o → JOk (p.lay o) := by
 refine JV.by_parts fun p ih hp o ho => ?_
 by_cases hs : p.sort = 6
 ·match p, hs, ih, hp with
  | .obj ko lo, _, ih, hp =>
   rw [lay_obj]
   have hu := lay_union hp ho
   have hR := keyed_rising (f := layF ko lo o) hu.1
   refine JOk.obj (by simp) (List.pairwise_map.2 hR) (fun k hk => ?_) fun x hx => ?_
   ·obtain ⟨q, hq, rfl⟩ := List.mem_map.1 hk
    have := (hu.2 _).1 (keyed_mem.1 hq).1
    exact (List.mem_append.1 this).elim ((mem2_ok ho).2.2.1 _) (hp.form.2.2.2.1 _)
   obtain ⟨q, hq, rfl⟩ := List.mem_map.1 hx
   have h : layF ko lo o q.1 = some q.2 := (keyed_mem.1 hq).2
   cases hy : atK ko lo q.1 with
   | none => rw [layF_none hy] at h; exact (mem2_ok ho).2.2.2 _ (atK_some_mem (mem2_ok ho).2.1 h).2
   | some y =>
    rw [layF_some hy] at h
    have hm := (atK_some_mem hp.form.2.2.1 hy).2
    by_cases h1 : y.sort = 1
    ·rw [if_pos h1] at h; cases h
    rw [if_neg h1] at h
    injection h with h
    rw [← h]
    exact ih y hm (hp.form.2.2.2.2.2 y hm) _ (at_ok (mem2_ok ho).2.1 (mem2_ok ho).2.2.2)
 rw [lay_whole p o hs]; exact hp
theorem JOk.obj_of {j : JV} (h : j.sort = 6) : ∃ ks l, j = .obj ks l := by
 cases j <;> first | exact ⟨_, _, rfl⟩ | cases h
structure Weight (f : JV → Nat) (c : Nat) (g : ByteArray → Nat) : Prop where
 obj : ∀ ks l, f (.obj ks l) = c + sumN (ks.map g) + sumN (l.map f)
theorem weight_nodes : Weight JV.nodes 1 fun _ => 0 := ⟨fun ks l => by
 have : sumN (ks.map fun _ => 0) = 0 := by
  induction ks with
  | nil => rfl
  | cons k ks ih => simp only [List.map_cons, sumN, ih]
 rw [this]; simp [JV.nodes]⟩
theorem weight_bytes : Weight JV.bytes 0 ByteArray.size := ⟨fun ks l => by simp [JV.bytes]⟩
theorem sumN_ite (k : ByteArray) (a : Nat) (g : ByteArray → Nat) : ∀ cs : List ByteArray, cs.Nodup → sumN (cs.map fun key => if k = key then a else g key) ≤ a + sumN (cs.map g)
 | [], _ => by simp [sumN]
 | c :: cs, h => by
  have h' := List.nodup_cons.1 h
  simp only [List.map_cons, sumN]
  by_cases hk : k = c
  ·subst hk
   rw [if_pos rfl]
   have : sumN (cs.map fun key => if k = key then a else g key) = sumN (cs.map g) := by
    congr 1
    refine List.map_congr_left fun s hs => ?_
    rw [if_neg fun e => h'.1 (by rw [e]; exact hs)]
   omega
  rw [if_neg hk]
  have := sumN_ite k a g cs h'.2
  omega
def ow (f : JV → Nat) (o : Option JV) : Nat := match o with
 | none => 0
 | some x => f x
theorem sumN_at (f : JV → Nat) (cs : List ByteArray) (hn : cs.Nodup) : ∀ (ks : List ByteArray) (l : List JV), sumN (cs.map fun key => ow f (atK ks l key)) ≤ sumN (l.map f)
 | [], l => by
  have : (cs.map fun key => ow f (atK [] l key)) = cs.map fun _ => 0 := List.map_congr_left fun s _ => by rw [atK_nil]; rfl
  rw [this]
  have h0 : sumN (cs.map fun _ => 0) = 0 := by
   clear hn this
   induction cs with
   | nil => rfl
   | cons c cs ih => simp only [List.map_cons, sumN, ih]
  omega
 | k :: ks, [] => by
  have : (cs.map fun key => ow f (atK (k :: ks) [] key)) = cs.map fun _ => 0 := List.map_congr_left fun s _ => by rw [atK_nil2]; rfl
  rw [this]
  have h0 : sumN (cs.map fun _ => 0) = 0 := by
   clear hn this
   induction cs with
   | nil => rfl
   | cons c cs ih => simp only [List.map_cons, sumN, ih]
  omega
 | k :: ks, y :: l => by
  have h1 : (cs.map fun key => ow f (atK (k :: ks) (y :: l) key)) = cs.map fun key => if k = key then f y else ow f (atK ks l key) := List.map_congr_left fun s _ => by
   rw [atK_cons]
   by_cases h : k = s
   ·rw [if_pos h, if_pos h]; rfl
   rw [if_neg h, if_neg h]
  rw [h1]
  have h2 := sumN_ite k (f y) (fun key => ow f (atK ks l key)) cs hn
  have h3 := sumN_at f cs hn ks l
  simp only [List.map_cons, sumN]
  omega
theorem sumN_app (a b : List Nat) : sumN (a ++ b) = sumN a + sumN b := by
 induction a with
 | nil => simp [sumN]
 | cons x a ih => simp only [List.cons_append, sumN, ih]; omega
theorem sumN_keys (g : ByteArray → Nat) : ∀ (cs l : List ByteArray), cs.Nodup → (∀ s ∈ cs, s ∈ l) → sumN (cs.map g) ≤ sumN (l.map g)
 | [], l, _, _ => by simp [sumN]
 | c :: cs, l, hn, hs => by
  have h' := List.nodup_cons.1 hn
  obtain ⟨l1, l2, rfl⟩ := List.append_of_mem (hs c (List.mem_cons_self ..))
  have h1 := sumN_keys g cs (l1 ++ l2) h'.2 fun s hm => by
   have := hs s (List.mem_cons_of_mem _ hm)
   rw [List.mem_append, List.mem_cons] at this
   rw [List.mem_append]
   rcases this with h | rfl | h
   ·exact .inl h
   ·exact absurd hm h'.1
   exact .inr h
  simp only [List.map_append, List.map_cons, sumN_app, sumN] at h1 ⊢
  omega
theorem keyed_weight {f : JV → Nat} {F : ByteArray → Option JV} {a b : ByteArray → Nat} (h : ∀ key, ow f (F key) ≤ a key + b key) : ∀ cs, sumN ((keyed F cs).map fun p => f p.2) ≤ sumN (cs.map a) + sumN (cs.map b)
 | [] => by simp [keyed, sumN]
 | c :: cs => by
  have h1 := keyed_weight h cs
  have h2 := h c
  simp only [List.map_cons, sumN]
  unfold keyed at h1 ⊢
  rw [List.filterMap_cons]
  cases hc : F c with
  | none => simp only [Option.map_none]; omega
  | some x =>
   rw [hc] at h2
   simp only [Option.map_some, List.map_cons, sumN]
   have : ow f (some x) = f x := rfl
   omega
theorem keyed_keys (F : ByteArray → Option JV) (cs : List ByteArray) : ((keyed F cs).map (·.1)).Sublist cs := by
 induction cs with
 | nil => exact .slnil
 | cons c cs ih =>
  unfold keyed at ih ⊢
  rw [List.filterMap_cons]
  cases F c with
  | none => exact ih.cons c
  | some x => exact ih.cons_cons c
theorem ltS_nodup {ks : List ByteArray} (h : ks.Pairwise ltS) : ks.Nodup := h.imp fun {a b} h1 (e : a = b) => by rw [e] at h1; exact ltS_irrefl b h1
theorem ow_mem {f : JV → Nat} {c : Nat} {g : ByteArray → Nat} (hw : Weight f c g) (o : Option JV) : sumN ((mem2 o).1.map g) + sumN ((mem2 o).2.map f) ≤ ow f o := by
 cases o with
 | none => simp [mem2, sumN]
 | some j =>
  cases j <;> first
   | (simp [mem2, sumN]; done)
   | (show _ ≤ f _; rw [hw.obj]; simp only [mem2]; omega)
theorem lay_weight {f : JV → Nat} {c : Nat} {g : ByteArray → Nat} (hw : Weight f c g) : ∀ (p : JV), JOk p → ∀ o, OOk o → f (p.lay o) ≤ f p + ow f o := by
 refine JV.by_parts fun p ih hp o ho => ?_
 by_cases hs : p.sort = 6
 ·match p, hs, ih, hp with
  | .obj ko lo, _, ih, hp =>
   rw [lay_obj, hw.obj, hw.obj, layM_eq]
   have hu := lay_union hp ho
   have hn := ltS_nodup hu.1
   obtain ⟨cs, hcs⟩ : ∃ cs, cs = unionK ((mem2 o).1 ++ ko) := ⟨_, rfl⟩
   rw [← hcs] at hu hn ⊢
   have h1 := sumN_keys g _ _ ((keyed_keys (layF ko lo o) cs).nodup hn) (fun s hm => (hu.2 s).1 ((keyed_keys (layF ko lo o) cs).subset hm))
   rw [List.map_append, sumN_app] at h1
   have h2 := keyed_weight (f := f) (F := layF ko lo o) (a := fun key => ow f (atK (mem2 o).1 (mem2 o).2 key)) (b := fun key => ow f (atK ko lo key)) (fun key => by
    cases hy : atK ko lo key with
    | none => rw [layF_none hy]; exact Nat.le_add_right _ _
    | some y =>
     rw [layF_some hy]
     by_cases h1 : y.sort = 1
     ·rw [if_pos h1]; exact Nat.zero_le _
     rw [if_neg h1]
     have hm := (atK_some_mem hp.form.2.2.1 hy).2
     have := ih y hm (hp.form.2.2.2.2.2 y hm) _ (at_ok (key := key) (mem2_ok ho).2.1 (mem2_ok ho).2.2.2)
     show f _ ≤ ow f _ + f y
     omega) cs
   have h3 := sumN_at f cs hn (mem2 o).1 (mem2 o).2
   have h4 := sumN_at f cs hn ko lo
   have h5 := ow_mem hw o
   have h6 : ((keyed (layF ko lo o) cs).map (·.2)).map f = (keyed (layF ko lo o) cs).map fun p => f p.2 := by rw [List.map_map]; rfl
   rw [h6]
   omega
 rw [lay_whole p o hs]; exact Nat.le_add_right _ _
end Go.Json
namespace Go.Proofs.YtdmcioghdindfaaGreatDoor
open Go Go.RowKit Go.Aff Go.Json
attribute [local go_sem] Oper.semAt_some
def ORAt (D : Nat → Prop) (w : World) (v : List Value) : Option JV → Prop
 | none => v = valZ
 | some j => RAt D w v j
def osort : Option JV → Int
 | none => 0
 | some j => j.sort
section
variable {D C : Nat → Prop} {w w' : World} {v : List Value} {o : Option JV}
theorem ORAt.stay (h : ORAt D w v o) (k : Keeps (fun _ => False) w w') : ORAt D w' v o := by
 cases o with
 | none => exact h
 | some j => exact RAt.stay h k
theorem ORAt.keep {F : Nat → Prop} (h : ORAt D w v o) (k : Keeps F w w') (hF : ∀ i, D i → ¬ F i) : ORAt D w' v o := by
 cases o with
 | none => exact h
 | some j => exact RAt.keep h k hF
theorem ORAt.mono (h : ORAt D w v o) (hC : ∀ i, D i → i < w.heap.size → C i) : ORAt C w v o := by
 cases o with
 | none => exact h
 | some j => exact RAt.mono h hC
theorem ORAt.len (h : ORAt D w v o) : v.length = 6 := by
 cases o with
 | none => rw [h]; rfl
 | some j => exact RAt.len h
theorem ORAt.one (h : ORAt D w v o) : ∀ u ∈ v, u.oneCell' = true := by
 cases o with
 | none =>
  have h' : v = valZ := h
  subst h'
  intro u hu
  simp only [valZ, List.mem_cons, List.not_mem_nil, or_false] at hu
  rcases hu with rfl | rfl | rfl | rfl | rfl | rfl <;> rfl
 | some j => exact RAt.one h
theorem ORAt.six (h : ORAt D w v o) : ∃ u1 u2 u3 A na c B nb d, v = [.int .i64 (osort o), .bool u1, .int .u64 u2, .string u3, .slice A na c, .slice B nb d] := by
 cases o with
 | none => exact ⟨_, _, _, _, _, _, _, _, _, h⟩
 | some j =>
  obtain ⟨A, c, B, d, cs, hv, _⟩ := RAt.form h
  exact ⟨_, _, _, A, _, c, B, _, d, hv⟩
end
end Go.Proofs.YtdmcioghdindfaaGreatDoor
