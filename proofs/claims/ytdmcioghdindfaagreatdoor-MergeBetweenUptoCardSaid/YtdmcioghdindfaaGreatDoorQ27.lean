/-
  Texts put together: RFindW; LayP; LayQ; RGetW; MAnsW; CompS.
-/
import Derived.Test.YtdmcioghdindfaaGreatDoorQ09
import Derived.Test.YtdmcioghdindfaaGreatDoorQ04
import Derived.Test.YtdmcioghdindfaaGreatDoorQ23
import Derived.Test.YtdmcioghdindfaaGreatDoorQ14
import Derived.Test.YtdmcioghdindfaaGreatDoorQ22
import Derived.Test.YtdmcioghdindfaaGreatDoorQ26
import Derived.Shelf.Slices.CompactS
import Derived.Shelf.Slices.Cells
import Derived.Test.YtdmcioghdindfaaGreatDoorProg
import Derived.Test.YtdmcioghdindfaaGreatDoorQ03
set_option linter.unusedSimpArgs false
set_option maxRecDepth 100000
set_option maxHeartbeats 4000000
namespace Go.Json
theorem bytes_told (s t : ByteArray) : (s.toList == t.toList) = decide (s = t) := by
 rw [Bool.eq_iff_iff, beq_iff_eq, decide_eq_true_iff, ByteArray.toList_eq, ByteArray.toList_eq]
 constructor
 ·intro h
  cases s; cases t
  congr
  exact Array.toList_inj.1 h
 ·intro h; rw [h]
def idxZ (ks : List ByteArray) (key : ByteArray) : Int := match ks.findIdx? fun k => decide (k = key) with
 | none => -1
 | some i => i
theorem idxZ_none {ks : List ByteArray} {key : ByteArray} (h : key ∉ ks) : idxZ ks key = -1 := by
 unfold idxZ
 rw [List.findIdx?_eq_none_iff.2 fun x hx => decide_eq_false fun (e : x = key) => h (by rw [← e]; exact hx)]
theorem idxZ_at {ks : List ByteArray} {key : ByteArray} {i : Nat} (h : ks[i]? = some key) (h2 : key ∉ ks.take i) : idxZ ks key = i := by
 obtain ⟨hi, he⟩ := List.getElem?_eq_some_iff.1 h
 have : (ks.findIdx? fun k => decide (k = key)) = some i := by
  rw [List.findIdx?_eq_some_iff_getElem]
  refine ⟨hi, by simp [he], fun j hj => ?_⟩
  have hne : ks[j] ≠ key := fun e => h2 (by
   rw [List.mem_iff_getElem?]
   exact ⟨j, by rw [List.getElem?_take_of_lt hj, List.getElem?_eq_getElem (by omega), e]⟩)
  simpa using hne
 unfold idxZ
 rw [this]
end Go.Json
namespace Go.Proofs.YtdmcioghdindfaaGreatDoor
open Go Go.RowKit Go.Aff Go.Json
attribute [local go_sem] Oper.semAt_some
theorem rfind_any {D : Nat → Prop} (w : World) (v : List Value) (j : JV) (h : RAt D w v j) (hn : j.keys.length ≤ 1099511627776) (key : ByteArray) :
  Calls Tryz.prog 70 #[.agg v.toArray, .string key] w fun e w' => e = .returned (.int .i64 (idxZ j.keys key)) ∧ Keeps (fun _ => False) w w' := by
 obtain ⟨A, c, B, d, cs, hv, _, _, hB, _⟩ := h.form
 obtain ⟨ks, hks⟩ : ∃ ks, ks = j.keys := ⟨_, rfl⟩
 obtain ⟨n, hnn⟩ : ∃ n, n = ks.length := ⟨_, rfl⟩
 rw [← hks] at hB hn ⊢
 rw [← hnn] at hB hn
 obtain ⟨z, u1, u2, u3, na, hv3⟩ : ∃ z u1 u2 u3 na, v = [.int .i64 z, .bool u1, .int .u64 u2, .string u3, .slice A na c, .slice B n d] := ⟨_, _, _, _, _, by rw [hv, hnn, hks]; rfl⟩
 subst hv3
 have HB := Lib.hid (And.intro hB hnn)
 have hbx := Boxed.made w 31 [.int .i64 z, .bool u1, .int .u64 u2, .string u3, .slice A na c, .slice B n d]
 have HBX := Lib.hid hbx
 clear h hv hB hks hnn hbx
 go_enter Tryz.func70, Tryz.ntmps70
 go_upto_block 0 with fail
 obtain ⟨b, hb⟩ : ∃ b, b = w.heap.size := ⟨_, rfl⟩
 rw [← hb] at HBX ⊢
 refine gen_codeF (fun W => Boxed w W b 31 [.int .i64 z, .bool u1, .int .u64 u2, .string u3, .slice A na c, .slice B n d]) HBX.out ?_
 intro w1 hb1
 have HB1 := Lib.hid hb1
 clear hb1 HBX hb
 go_wp2
 go_loopg [5] n (fun gk t wx => ∃ i : Nat, i ≤ n ∧ t = .int .i64 i ∧ gk = n - i ∧ Hid (Keeps (fun _ => False) w1 wx ∧ key ∉ ks.take i))
 case atStart => exact ⟨0, by omega, rfl, rfl, Lib.hid ⟨Keeps.refl _ _, by simp⟩⟩
 case round =>
  obtain ⟨i, hin, rfl, hgk, HO⟩ := hrel
  have HGK := Lib.hid hgk
  clear hgk
  have hbb := HB1.out.stay HO.out.1
  have x5 := hbb.blk.cell 5
  have HK2 := Lib.hid hbb.keep
  clear hbb
  by_cases hlt : i < n
  ·obtain ⟨g, o, s, hA, hs, hck⟩ := textAt (HB.out.1.keep HK2.out (fun _ _ _ h => h)) hlt
   subst hA
   have HS := Lib.hid hs
   have hi63 : (0 : Int) ≤ (i : Int) := by omega
   have hiN : (i : Int) < (n : Int) := by omega
   clear hs
   by_cases hsk : s = key
   ·have hq : (s.toList == key.toList) = true := by rw [bytes_told]; exact decide_eq_true hsk
    have HSK := Lib.hid hsk
    clear hsk
    go_wp2
    go_ret
    exact ⟨by rw [idxZ_at (HSK.out ▸ HS.out) HO.out.2]; rfl, HK2.out⟩
   ·have hq : (s.toList == key.toList) = false := by rw [bytes_told]; exact decide_eq_false hsk
    have HSK := Lib.hid hsk
    clear hsk
    go_wp2
    go_roundg (n - (i + 1))
    case measure => rw [HGK.out]; omega
    case rel => exact ⟨i + 1, by omega, by go_num, rfl, Lib.hid ⟨HO.out.1, by
     rw [List.take_add_one, HS.out, List.mem_append]
     rintro (h | h)
     ·exact HO.out.2 h
     ·exact HSK.out (by simpa using h : key = s).symm⟩⟩
  ·obtain rfl : i = n := by omega
   have HNO : Hid (key ∉ ks) := Lib.hid (by have := HO.out.2; rwa [List.take_of_length_le (by rw [HB.out.2]; exact Nat.le_refl _)] at this)
   go_wp2
   go_ret
   exact ⟨by rw [idxZ_none HNO.out]; rfl, HK2.out⟩
end Go.Proofs.YtdmcioghdindfaaGreatDoor
namespace Go.Json
noncomputable def unionK (ks : List ByteArray) : List ByteArray := open Classical in if h : ∃ cs : List ByteArray, cs.Pairwise ltS ∧ ∀ s, s ∈ cs ↔ s ∈ ks then Classical.choose h else []
theorem unionK_eq {ks cs : List ByteArray} (h1 : cs.Pairwise ltS) (h2 : ∀ s, s ∈ cs ↔ s ∈ ks) : unionK ks = cs := by
 have h : ∃ cs : List ByteArray, cs.Pairwise ltS ∧ ∀ s, s ∈ cs ↔ s ∈ ks := ⟨cs, h1, h2⟩
 unfold unionK
 rw [dif_pos h]
 obtain ⟨h3, h4⟩ := Classical.choose_spec h
 exact rising_keys h3 h1 fun s => (h4 s).trans (h2 s).symm
def atK {α : Type} (ks : List ByteArray) (l : List α) (key : ByteArray) : Option α := (ks.findIdx? fun k => decide (k = key)).bind fun i => l[i]?
def mem2 : Option JV → List ByteArray × List JV
 | some (.obj ks l) => (ks, l)
 | _ => ([], [])
def layAt (under : Option JV) (over : Option (JV × (Option JV → JV))) : Option JV := match over with
 | none => under
 | some (y, f) => if y.sort = 1 then none else some (f under)
noncomputable def JV.lay : JV → Option JV → JV
 | .obj ko lo => fun v =>
  let L := lo.map fun y => (y, y.lay)
  let M := (unionK ((mem2 v).1 ++ ko)).filterMap fun key => (layAt (atK (mem2 v).1 (mem2 v).2 key) (atK ko L key)).map fun x => (key, x)
  .obj (M.map (·.1)) (M.map (·.2))
 | p => fun _ => p
theorem lay_whole (p : JV) (v : Option JV) (h : p.sort ≠ 6) : p.lay v = p := by cases p <;> first | exact absurd rfl h | simp [JV.lay]
noncomputable def layM (ko : List ByteArray) (lo : List JV) (v : Option JV) (keys : List ByteArray) : List (ByteArray × JV) := keys.filterMap fun key => (layAt (atK (mem2 v).1 (mem2 v).2 key) (atK ko (lo.map fun y => (y, y.lay)) key)).map fun x => (key, x)
theorem lay_obj (ko : List ByteArray) (lo : List JV) (v : Option JV) : (JV.obj ko lo).lay v = .obj ((layM ko lo v (unionK ((mem2 v).1 ++ ko))).map (·.1)) ((layM ko lo v (unionK ((mem2 v).1 ++ ko))).map (·.2)) := by
 rw [JV.lay]; rfl
theorem atK_map {α β : Type} (ks : List ByteArray) (l : List α) (f : α → β) (key : ByteArray) : atK ks (l.map f) key = (atK ks l key).map f := by
 unfold atK
 cases ks.findIdx? fun k => decide (k = key) with
 | none => rfl
 | some i => simp
theorem JV.by_parts {P : JV → Prop} (h : ∀ j : JV, (∀ x, x ∈ j.items → P x) → P j) : ∀ j, P j :=
 JV.ind (h .null fun x hx => by cases hx) (fun b => h (.flag b) fun x hx => by cases hx) (fun b => h (.num b) fun x hx => by cases hx) (fun s => h (.text s) fun x hx => by cases hx) (fun l ih => h (.list l) ih) (fun ks l ih => h (.obj ks l) ih)
theorem atK_cons {α : Type} (k : ByteArray) (ks : List ByteArray) (y : α) (l : List α) (key : ByteArray) : atK (k :: ks) (y :: l) key = if k = key then some y else atK ks l key := by
 unfold atK
 rw [List.findIdx?_cons]
 by_cases h : k = key
 ·rw [if_pos h, if_pos (decide_eq_true h)]; rfl
 ·rw [if_neg h, if_neg (by simpa using h)]
  cases ks.findIdx? fun k => decide (k = key) with
  | none => rfl
  | some i => simp
theorem atK_nil {α : Type} (l : List α) (key : ByteArray) : atK [] l key = none := by unfold atK; simp
theorem atK_nil2 {α : Type} (ks : List ByteArray) (key : ByteArray) : atK ks ([] : List α) key = none := by
 unfold atK
 cases ks.findIdx? fun k => decide (k = key) with
 | none => rfl
 | some i => simp
theorem atK_zip {α : Type} {ks : List ByteArray} (hp : ks.Pairwise ltS) : ∀ (l : List α) (key : ByteArray) (x : α), atK ks l key = some x ↔ (key, x) ∈ ks.zip l := by
 induction ks with
 | nil => intro l key x; simp [atK_nil]
 | cons k ks ih =>
  intro l key x
  cases l with
  | nil => simp [atK_nil2]
  | cons y l =>
   have hp' := List.pairwise_cons.1 hp
   rw [atK_cons, List.zip_cons_cons, List.mem_cons]
   by_cases h : k = key
   ·subst h
    rw [if_pos rfl]
    constructor
    ·intro e; injection e with e; subst e; exact .inl rfl
    ·rintro (e | e)
     ·injection e with _ e; rw [e]
     ·exact absurd (hp'.1 k (List.of_mem_zip e).1) (ltS_irrefl k)
   ·rw [if_neg h, ih hp'.2]
    constructor
    ·exact .inr
    ·rintro (e | e)
     ·injection e with e; exact absurd e.symm h
     ·exact e
theorem rising_fst {l : List (ByteArray × JV)} (h : Rising l) : (l.map (·.1)).Pairwise ltS := List.pairwise_map.2 h
theorem rising_zip {ks : List ByteArray} {l : List JV} (hp : ks.Pairwise ltS) (hl : ks.length = l.length) : Rising (ks.zip l) := by
 have h : ((ks.zip l).map (·.1)).Pairwise ltS := by rw [List.map_fst_zip (by omega)]; exact hp
 exact List.pairwise_map.1 h
theorem obj_ext {ks ks' : List ByteArray} {l l' : List JV} (hp : ks.Pairwise ltS) (hp' : ks'.Pairwise ltS) (hl : ks.length = l.length) (hl' : ks'.length = l'.length) (h : ∀ key, atK ks l key = atK ks' l' key) : JV.obj ks l = JV.obj ks' l' := by
 have hz : ks.zip l = ks'.zip l' := rising_eq (rising_zip hp hl) (rising_zip hp' hl') fun p => by
  rw [show p = (p.1, p.2) from rfl, ← atK_zip hp, ← atK_zip hp', h]
 have h1 : ks = ks' := by
  have := congrArg (fun z => z.map Prod.fst) hz
  rwa [List.map_fst_zip (by omega), List.map_fst_zip (by omega)] at this
 have h2 : l = l' := by
  have := congrArg (fun z => z.map Prod.snd) hz
  rwa [List.map_snd_zip (by omega), List.map_snd_zip (by omega)] at this
 rw [h1, h2]
theorem union_ex (ks : List ByteArray) (hr : ∀ k ∈ ks, rightS k = true) : ∃ cs : List ByteArray, cs.Pairwise ltS ∧ ∀ s, s ∈ cs ↔ s ∈ ks := by
 induction ks with
 | nil => exact ⟨[], .nil, fun s => Iff.rfl⟩
 | cons k ks ih =>
  obtain ⟨cs, h1, h2⟩ := ih fun s hs => hr s (List.mem_cons_of_mem _ hs)
  by_cases hk : k ∈ cs
  ·refine ⟨cs, h1, fun s => ?_⟩
   rw [h2 s, List.mem_cons]
   constructor
   ·exact .inr
   ·rintro (rfl | h)
    ·exact (h2 _).1 hk
    ·exact h
  ·have hm : (cs.map fun s => (s, JV.null)).map (·.1) = cs := by rw [List.map_map]; exact List.map_id _
   have hR : Rising (cs.map fun s => (s, JV.null)) := by
    have h : ((cs.map fun s => (s, JV.null)).map (·.1)).Pairwise ltS := by rw [hm]; exact h1
    exact List.pairwise_map.1 h
   have hdis : ∀ q ∈ (cs.map fun s => (s, JV.null)), ltS k q.1 ∨ ltS q.1 k := fun q hq => by
    obtain ⟨s, hs, rfl⟩ := List.mem_map.1 hq
    rcases ltS_tri (hr k (List.mem_cons_self ..)) (hr s (List.mem_cons_of_mem _ ((h2 s).1 hs))) with h | h | h
    ·exact .inl h
    ·exact absurd (h ▸ hs) hk
    ·exact .inr h
   have hins : Rising (insM (k, JV.null) (cs.map fun s => (s, JV.null))) := insM_rising (k, JV.null) _ hR hdis
   refine ⟨(insM (k, .null) (cs.map fun s => (s, JV.null))).map (·.1), rising_fst hins, fun s => ?_⟩
   have hpm := (insM_perm (k, JV.null) (cs.map fun s => (s, JV.null))).map (·.1)
   rw [List.map_cons, hm] at hpm
   rw [hpm.mem_iff, List.mem_cons, List.mem_cons, h2 s]
theorem unionK_spec {ks : List ByteArray} (hr : ∀ k ∈ ks, rightS k = true) : (unionK ks).Pairwise ltS ∧ ∀ s, s ∈ unionK ks ↔ s ∈ ks := by
 obtain ⟨cs, h1, h2⟩ := union_ex ks hr
 rw [unionK_eq h1 h2]
 exact ⟨h1, h2⟩
theorem zip_parts {α β : Type} : ∀ (M : List (α × β)), (M.map (·.1)).zip (M.map (·.2)) = M
 | [] => rfl
 | p :: M => by rw [List.map_cons, List.map_cons, List.zip_cons_cons, zip_parts M]
theorem atK_some_mem {α : Type} {ks : List ByteArray} {l : List α} {key : ByteArray} {x : α} (hp : ks.Pairwise ltS) (h : atK ks l key = some x) : key ∈ ks ∧ x ∈ l := List.of_mem_zip ((atK_zip hp l key x).1 h)
def keyed (f : ByteArray → Option JV) (cs : List ByteArray) : List (ByteArray × JV) := cs.filterMap fun key => (f key).map fun x => (key, x)
theorem keyed_mem {f : ByteArray → Option JV} {cs : List ByteArray} {p : ByteArray × JV} : p ∈ keyed f cs ↔ p.1 ∈ cs ∧ f p.1 = some p.2 := by
 unfold keyed
 rw [List.mem_filterMap]
 constructor
 ·rintro ⟨k, hk, h⟩
  cases hf : f k with
  | none => rw [hf] at h; cases h
  | some x =>
   rw [hf] at h
   injection h with h
   subst h
   exact ⟨hk, hf⟩
 ·rintro ⟨h1, h2⟩
  exact ⟨p.1, h1, by rw [h2]; rfl⟩
theorem keyed_rising {f : ByteArray → Option JV} {cs : List ByteArray} (hp : cs.Pairwise ltS) : Rising (keyed f cs) := by
 unfold Rising keyed
 rw [List.pairwise_filterMap]
 refine hp.imp fun {a b} hab p hp q hq => ?_
 cases ha : f a with
 | none => rw [ha] at hp; cases hp
 | some x =>
  cases hb : f b with
  | none => rw [hb] at hq; cases hq
  | some y =>
   rw [ha] at hp; rw [hb] at hq
   injection hp with hp; injection hq with hq
   subst hp; subst hq
   exact hab
theorem keyed_at {f : ByteArray → Option JV} {cs : List ByteArray} (hp : cs.Pairwise ltS) (hf : ∀ key x, f key = some x → key ∈ cs) (key : ByteArray) : atK ((keyed f cs).map (·.1)) ((keyed f cs).map (·.2)) key = f key := by
 refine Option.ext fun x => ?_
 rw [atK_zip (List.pairwise_map.2 (keyed_rising hp)), zip_parts, keyed_mem]
 exact ⟨fun h => h.2, fun h => ⟨hf key x h, h⟩⟩
noncomputable def layF (ko : List ByteArray) (lo : List JV) (v : Option JV) (key : ByteArray) : Option JV := layAt (atK (mem2 v).1 (mem2 v).2 key) (atK ko (lo.map fun y => (y, y.lay)) key)
theorem layM_eq (ko : List ByteArray) (lo : List JV) (v : Option JV) (cs : List ByteArray) : layM ko lo v cs = keyed (layF ko lo v) cs := rfl
theorem layF_none {ko : List ByteArray} {lo : List JV} {v : Option JV} {key : ByteArray} (h : atK ko lo key = none) : layF ko lo v key = atK (mem2 v).1 (mem2 v).2 key := by
 unfold layF; rw [atK_map, h]; rfl
theorem layF_some {ko : List ByteArray} {lo : List JV} {v : Option JV} {key : ByteArray} {y : JV} (h : atK ko lo key = some y) : layF ko lo v key = if y.sort = 1 then none else some (y.lay (atK (mem2 v).1 (mem2 v).2 key)) := by
 unfold layF; rw [atK_map, h]; rfl
def OOk (o : Option JV) : Prop := ∀ x, o = some x → JOk x
theorem mem2_ok {o : Option JV} (h : OOk o) : (mem2 o).1.length = (mem2 o).2.length ∧ (mem2 o).1.Pairwise ltS ∧ (∀ k ∈ (mem2 o).1, rightS k = true) ∧ ∀ x ∈ (mem2 o).2, JOk x := by
 cases o with
 | none => exact ⟨rfl, .nil, fun k hk => absurd hk List.not_mem_nil, fun x hx => absurd hx List.not_mem_nil⟩
 | some j =>
  have hj := h j rfl
  clear h
  have hf := hj.form
  cases j <;> first
   | exact ⟨rfl, .nil, fun k hk => absurd hk List.not_mem_nil, fun x hx => absurd hx List.not_mem_nil⟩
   | exact ⟨hf.2.1 rfl, hf.2.2.1, hf.2.2.2.1, hf.2.2.2.2.2⟩
theorem at_ok {ks : List ByteArray} {l : List JV} {key : ByteArray} (hp : ks.Pairwise ltS) (h : ∀ x ∈ l, JOk x) : OOk (atK ks l key) := fun x hx => h x (atK_some_mem hp hx).2
section
variable {ko : List ByteArray} {lo : List JV} {v : Option JV}
theorem lay_union (hj : JOk (.obj ko lo)) (hv : OOk v) : (unionK ((mem2 v).1 ++ ko)).Pairwise ltS ∧ ∀ s, s ∈ unionK ((mem2 v).1 ++ ko) ↔ s ∈ (mem2 v).1 ++ ko :=
 unionK_spec fun k hk => (List.mem_append.1 hk).elim ((mem2_ok hv).2.2.1 k) (hj.form.2.2.2.1 k)
theorem layF_in (hj : JOk (.obj ko lo)) (hv : OOk v) {key : ByteArray} {x : JV} (h : layF ko lo v key = some x) : key ∈ unionK ((mem2 v).1 ++ ko) := by
 rw [(lay_union hj hv).2, List.mem_append]
 cases ho : atK ko lo key with
 | none => rw [layF_none ho] at h; exact .inl (atK_some_mem (mem2_ok hv).2.1 h).1
 | some y => exact .inr (atK_some_mem hj.form.2.2.1 ho).1
theorem lay_at (hj : JOk (.obj ko lo)) (hv : OOk v) (key : ByteArray) : atK ((layM ko lo v (unionK ((mem2 v).1 ++ ko))).map (·.1)) ((layM ko lo v (unionK ((mem2 v).1 ++ ko))).map (·.2)) key = layF ko lo v key := by
 rw [layM_eq]
 exact keyed_at (lay_union hj hv).1 (fun _ _ h => layF_in hj hv h) key
end
theorem JOk.obj {ks : List ByteArray} {l : List JV} (hl : ks.length = l.length) (hp : ks.Pairwise ltS) (hr : ∀ k ∈ ks, rightS k = true) (h : ∀ x ∈ l, JOk x) : JOk (.obj ks l) :=
 .mk _ (by show ks.length ≤ l.length; omega) (fun _ => hl) hp hr (by show rightS ByteArray.empty = true; decide) h
theorem lay_ok : ∀ (p : JV), JOk p → ∀ o, OOk o → JOk (p.lay o) := by
 refine JV.by_parts fun p ih hp o ho => ?_
 by_cases hs : p.sort = 6
 ·match p, hs, ih, hp with
  | .obj ko lo, _, ih, hp =>
   rw [lay_obj]
   have hu := lay_union hp ho
   have hR := keyed_rising (f := layF ko lo o) hu.1
   refine JOk.obj (by simp) (List.pairwise_map.2 hR) (fun k hk => ?_) fun x hx => ?_
   ·obtain ⟨q, hq, rfl⟩ := List.mem_map.1 hk
    have := (hu.2 _).1 (keyed_mem.1 hq).1
    exact (List.mem_append.1 this).elim ((mem2_ok ho).2.2.1 _) (hp.form.2.2.2.1 _)
   ·obtain ⟨q, hq, rfl⟩ := List.mem_map.1 hx
    have h : layF ko lo o q.1 = some q.2 := (keyed_mem.1 hq).2
    cases hy : atK ko lo q.1 with
    | none => rw [layF_none hy] at h; exact (mem2_ok ho).2.2.2 _ (atK_some_mem (mem2_ok ho).2.1 h).2
    | some y =>
     rw [layF_some hy] at h
     have hm := (atK_some_mem hp.form.2.2.1 hy).2
     by_cases h1 : y.sort = 1
     ·rw [if_pos h1] at h; cases h
     ·rw [if_neg h1] at h
      injection h with h
      rw [← h]
      exact ih y hm (hp.form.2.2.2.2.2 y hm) _ (at_ok (mem2_ok ho).2.1 (mem2_ok ho).2.2.2)
 ·rw [lay_whole p o hs]; exact hp
theorem JOk.obj_of {j : JV} (h : j.sort = 6) : ∃ ks l, j = .obj ks l := by
 cases j <;> first | exact ⟨_, _, rfl⟩ | cases h
structure Weight (f : JV → Nat) (c : Nat) (g : ByteArray → Nat) : Prop where
 obj : ∀ ks l, f (.obj ks l) = c + sumN (ks.map g) + sumN (l.map f)
theorem weight_nodes : Weight JV.nodes 1 fun _ => 0 := ⟨fun ks l => by
 have : sumN (ks.map fun _ => 0) = 0 := by
  induction ks with
  | nil => rfl
  | cons k ks ih => simp only [List.map_cons, sumN, ih]
 rw [this]; simp [JV.nodes]⟩
theorem weight_bytes : Weight JV.bytes 0 ByteArray.size := ⟨fun ks l => by simp [JV.bytes]⟩
theorem sumN_ite (k : ByteArray) (a : Nat) (g : ByteArray → Nat) : ∀ cs : List ByteArray, cs.Nodup → sumN (cs.map fun key => if k = key then a else g key) ≤ a + sumN (cs.map g)
 | [], _ => by simp [sumN]
 | c :: cs, h => by
  have h' := List.nodup_cons.1 h
  simp only [List.map_cons, sumN]
  by_cases hk : k = c
  ·subst hk
   rw [if_pos rfl]
   have : sumN (cs.map fun key => if k = key then a else g key) = sumN (cs.map g) := by
    congr 1
    refine List.map_congr_left fun s hs => ?_
    rw [if_neg fun e => h'.1 (by rw [e]; exact hs)]
   omega
  ·rw [if_neg hk]
   have := sumN_ite k a g cs h'.2
   omega
def ow (f : JV → Nat) (o : Option JV) : Nat := match o with
 | none => 0
 | some x => f x
theorem sumN_at (f : JV → Nat) (cs : List ByteArray) (hn : cs.Nodup) : ∀ (ks : List ByteArray) (l : List JV), sumN (cs.map fun key => ow f (atK ks l key)) ≤ sumN (l.map f)
 | [], l => by
  have : (cs.map fun key => ow f (atK [] l key)) = cs.map fun _ => 0 := List.map_congr_left fun s _ => by rw [atK_nil]; rfl
  rw [this]
  have h0 : sumN (cs.map fun _ => 0) = 0 := by
   clear hn this
   induction cs with
   | nil => rfl
   | cons c cs ih => simp only [List.map_cons, sumN, ih]
  omega
 | k :: ks, [] => by
  have : (cs.map fun key => ow f (atK (k :: ks) [] key)) = cs.map fun _ => 0 := List.map_congr_left fun s _ => by rw [atK_nil2]; rfl
  rw [this]
  have h0 : sumN (cs.map fun _ => 0) = 0 := by
   clear hn this
   induction cs with
   | nil => rfl
   | cons c cs ih => simp only [List.map_cons, sumN, ih]
  omega
 | k :: ks, y :: l => by
  have h1 : (cs.map fun key => ow f (atK (k :: ks) (y :: l) key)) = cs.map fun key => if k = key then f y else ow f (atK ks l key) := List.map_congr_left fun s _ => by
   rw [atK_cons]
   by_cases h : k = s
   ·rw [if_pos h, if_pos h]; rfl
   ·rw [if_neg h, if_neg h]
  rw [h1]
  have h2 := sumN_ite k (f y) (fun key => ow f (atK ks l key)) cs hn
  have h3 := sumN_at f cs hn ks l
  simp only [List.map_cons, sumN]
  omega
theorem sumN_app (a b : List Nat) : sumN (a ++ b) = sumN a + sumN b := by
 induction a with
 | nil => simp [sumN]
 | cons x a ih => simp only [List.cons_append, sumN, ih]; omega
theorem sumN_keys (g : ByteArray → Nat) : ∀ (cs l : List ByteArray), cs.Nodup → (∀ s ∈ cs, s ∈ l) → sumN (cs.map g) ≤ sumN (l.map g)
 | [], l, _, _ => by simp [sumN]
 | c :: cs, l, hn, hs => by
  have h' := List.nodup_cons.1 hn
  obtain ⟨l1, l2, rfl⟩ := List.append_of_mem (hs c (List.mem_cons_self ..))
  have h1 := sumN_keys g cs (l1 ++ l2) h'.2 fun s hm => by
   have := hs s (List.mem_cons_of_mem _ hm)
   rw [List.mem_append, List.mem_cons] at this
   rw [List.mem_append]
   rcases this with h | rfl | h
   ·exact .inl h
   ·exact absurd hm h'.1
   ·exact .inr h
  simp only [List.map_append, List.map_cons, sumN_app, sumN] at h1 ⊢
  omega
theorem keyed_weight {f : JV → Nat} {F : ByteArray → Option JV} {a b : ByteArray → Nat} (h : ∀ key, ow f (F key) ≤ a key + b key) : ∀ cs, sumN ((keyed F cs).map fun p => f p.2) ≤ sumN (cs.map a) + sumN (cs.map b)
 | [] => by simp [keyed, sumN]
 | c :: cs => by
  have h1 := keyed_weight h cs
  have h2 := h c
  simp only [List.map_cons, sumN]
  unfold keyed at h1 ⊢
  rw [List.filterMap_cons]
  cases hc : F c with
  | none => simp only [Option.map_none]; omega
  | some x =>
   rw [hc] at h2
   simp only [Option.map_some, List.map_cons, sumN]
   have : ow f (some x) = f x := rfl
   omega
theorem keyed_keys (F : ByteArray → Option JV) (cs : List ByteArray) : ((keyed F cs).map (·.1)).Sublist cs := by
 induction cs with
 | nil => exact .slnil
 | cons c cs ih =>
  unfold keyed at ih ⊢
  rw [List.filterMap_cons]
  cases F c with
  | none => exact ih.cons c
  | some x => exact ih.cons_cons c
theorem ltS_nodup {ks : List ByteArray} (h : ks.Pairwise ltS) : ks.Nodup := h.imp fun {a b} h1 (e : a = b) => by rw [e] at h1; exact ltS_irrefl b h1
theorem ow_mem {f : JV → Nat} {c : Nat} {g : ByteArray → Nat} (hw : Weight f c g) (o : Option JV) : sumN ((mem2 o).1.map g) + sumN ((mem2 o).2.map f) ≤ ow f o := by
 cases o with
 | none => simp [mem2, sumN]
 | some j =>
  cases j <;> first
   | (simp [mem2, sumN]; done)
   | (show _ ≤ f _; rw [hw.obj]; simp only [mem2]; omega)
theorem lay_weight {f : JV → Nat} {c : Nat} {g : ByteArray → Nat} (hw : Weight f c g) : ∀ (p : JV), JOk p → ∀ o, OOk o → f (p.lay o) ≤ f p + ow f o := by
 refine JV.by_parts fun p ih hp o ho => ?_
 by_cases hs : p.sort = 6
 ·match p, hs, ih, hp with
  | .obj ko lo, _, ih, hp =>
   rw [lay_obj, hw.obj, hw.obj, layM_eq]
   have hu := lay_union hp ho
   have hn := ltS_nodup hu.1
   obtain ⟨cs, hcs⟩ : ∃ cs, cs = unionK ((mem2 o).1 ++ ko) := ⟨_, rfl⟩
   rw [← hcs] at hu hn ⊢
   have h1 := sumN_keys g _ _ ((keyed_keys (layF ko lo o) cs).nodup hn) (fun s hm => (hu.2 s).1 ((keyed_keys (layF ko lo o) cs).subset hm))
   rw [List.map_append, sumN_app] at h1
   have h2 := keyed_weight (f := f) (F := layF ko lo o) (a := fun key => ow f (atK (mem2 o).1 (mem2 o).2 key)) (b := fun key => ow f (atK ko lo key)) (fun key => by
    cases hy : atK ko lo key with
    | none => rw [layF_none hy]; exact Nat.le_add_right _ _
    | some y =>
     rw [layF_some hy]
     by_cases h1 : y.sort = 1
     ·rw [if_pos h1]; exact Nat.zero_le _
     ·rw [if_neg h1]
      have hm := (atK_some_mem hp.form.2.2.1 hy).2
      have := ih y hm (hp.form.2.2.2.2.2 y hm) _ (at_ok (key := key) (mem2_ok ho).2.1 (mem2_ok ho).2.2.2)
      show f _ ≤ ow f _ + f y
      omega) cs
   have h3 := sumN_at f cs hn (mem2 o).1 (mem2 o).2
   have h4 := sumN_at f cs hn ko lo
   have h5 := ow_mem hw o
   have h6 : ((keyed (layF ko lo o) cs).map (·.2)).map f = (keyed (layF ko lo o) cs).map fun p => f p.2 := by rw [List.map_map]; rfl
   rw [h6]
   omega
 ·rw [lay_whole p o hs]; exact Nat.le_add_right _ _
end Go.Json
namespace Go.Proofs.YtdmcioghdindfaaGreatDoor
open Go Go.RowKit Go.Aff Go.Json
attribute [local go_sem] Oper.semAt_some
def ORAt (D : Nat → Prop) (w : World) (v : List Value) : Option JV → Prop
 | none => v = valZ
 | some j => RAt D w v j
def osort : Option JV → Int
 | none => 0
 | some j => j.sort
section
variable {D C : Nat → Prop} {w w' : World} {v : List Value} {o : Option JV}
theorem ORAt.stay (h : ORAt D w v o) (k : Keeps (fun _ => False) w w') : ORAt D w' v o := by
 cases o with
 | none => exact h
 | some j => exact RAt.stay h k
theorem ORAt.keep {F : Nat → Prop} (h : ORAt D w v o) (k : Keeps F w w') (hF : ∀ i, D i → ¬ F i) : ORAt D w' v o := by
 cases o with
 | none => exact h
 | some j => exact RAt.keep h k hF
theorem ORAt.mono (h : ORAt D w v o) (hC : ∀ i, D i → i < w.heap.size → C i) : ORAt C w v o := by
 cases o with
 | none => exact h
 | some j => exact RAt.mono h hC
theorem ORAt.len (h : ORAt D w v o) : v.length = 6 := by
 cases o with
 | none => rw [h]; rfl
 | some j => exact RAt.len h
theorem ORAt.one (h : ORAt D w v o) : ∀ u ∈ v, u.oneCell' = true := by
 cases o with
 | none =>
  have h' : v = valZ := h
  subst h'
  intro u hu
  simp only [valZ, List.mem_cons, List.not_mem_nil, or_false] at hu
  rcases hu with rfl | rfl | rfl | rfl | rfl | rfl <;> rfl
 | some j => exact RAt.one h
theorem ORAt.six (h : ORAt D w v o) : ∃ u1 u2 u3 A na c B nb d, v = [.int .i64 (osort o), .bool u1, .int .u64 u2, .string u3, .slice A na c, .slice B nb d] := by
 cases o with
 | none => exact ⟨_, _, _, _, _, _, _, _, _, h⟩
 | some j =>
  obtain ⟨A, c, B, d, cs, hv, _⟩ := RAt.form h
  exact ⟨_, _, _, A, _, c, B, _, d, hv⟩
end
theorem osort_obj {o : Option JV} (h : osort o = 6) : ∃ ks l, o = some (.obj ks l) := by
 cases o with
 | none => simp [osort] at h
 | some j =>
  obtain ⟨ks, l, rfl⟩ := JOk.obj_of (show j.sort = 6 from h)
  exact ⟨ks, l, rfl⟩
theorem mem2_none {o : Option JV} (h : osort o ≠ 6) : mem2 o = ([], []) := by
 cases o with
 | none => rfl
 | some j => cases j <;> first | rfl | exact absurd rfl h
theorem idxZ_atK {ks : List ByteArray} {l : List JV} {key : ByteArray} : (idxZ ks key = -1 ∧ atK ks l key = none) ∨ ∃ i : Nat, idxZ ks key = i ∧ ks[i]? = some key ∧ atK ks l key = l[i]? := by
 unfold idxZ atK
 cases h : ks.findIdx? fun k => decide (k = key) with
 | none => exact .inl ⟨rfl, rfl⟩
 | some i =>
  refine .inr ⟨i, rfl, ?_, rfl⟩
  obtain ⟨hi, he, _⟩ := List.findIdx?_eq_some_iff_getElem.1 h
  rw [List.getElem?_eq_getElem hi]
  simpa using he
def ORPost (D : Nat → Prop) (w : World) (o : Option JV) (e : Ending) (w' : World) : Prop := ∃ v', e = .returned (.agg v'.toArray) ∧ ORAt D w' v' o ∧ Keeps (fun _ => False) w w'
theorem rget_any {D : Nat → Prop} (w : World) (v : List Value) (o : Option JV) (h : ORAt D w v o) (hl : (mem2 o).1.length = (mem2 o).2.length) (hn : (mem2 o).1.length ≤ 1099511627776) (key : ByteArray) :
  Calls Tryz.prog 41 #[.agg v.toArray, .string key] w (ORPost D w (atK (mem2 o).1 (mem2 o).2 key)) := by
 obtain ⟨u1, u2, u3, A, na, c, B, nb, d, hv⟩ := h.six
 obtain ⟨so, hso⟩ : ∃ so, so = osort o := ⟨_, rfl⟩
 rw [← hso] at hv
 subst hv
 have h := h.mono (C := fun i => D i ∧ i < w.heap.size) fun i h1 h2 => ⟨h1, h2⟩
 have HH := Lib.hid h
 have hb1 := (Blk.new w 31 [.int .i64 so, .bool u1, .int .u64 u2, .string u3, .slice A na c, .slice B nb d]).alloc (.cells #[.int .i64 0, .bool false, .int .u64 0, .string .empty, .slice none 0 0, .slice none 0 0] 31)
 have c0 := hb1.cell 0
 have c1 := hb1.cell 1
 have c2 := hb1.cell 2
 have c3 := hb1.cell 3
 have c4 := hb1.cell 4
 have c5 := hb1.cell 5
 have hb2 := Blk.new (w.alloc (.cells #[.int .i64 so, .bool u1, .int .u64 u2, .string u3, .slice A na c, .slice B nb d] 31)) 31 [.int .i64 0, .bool false, .int .u64 0, .string .empty, .slice none 0 0, .slice none 0 0]
 rw [World.size_alloc] at hb2
 have f0 := hb2.frozen 0
 have f1 := hb2.frozen 1
 have f2 := hb2.frozen 2
 have f3 := hb2.frozen 3
 have f4 := hb2.frozen 4
 have f5 := hb2.frozen 5
 have HK := Lib.hid (((Keeps.refl (fun _ => False) w).alloc (.cells #[.int .i64 so, .bool u1, .int .u64 u2, .string u3, .slice A na c, .slice B nb d] 31)).alloc (.cells #[.int .i64 0, .bool false, .int .u64 0, .string .empty, .slice none 0 0, .slice none 0 0] 31))
 obtain ⟨b2, hbb2⟩ : ∃ b2, b2 = w.heap.size + 1 := ⟨_, rfl⟩
 by_cases h6 : so = 6
 ·have hne : (so != 6) = false := by rw [h6]; rfl
  obtain ⟨ks, l, ho⟩ := osort_obj (hso ▸ h6)
  subst ho
  have HFI : Hid (∀ W, Keeps (fun _ => False) w W → Calls Tryz.prog 70 #[.agg #[.int .i64 so, .bool u1, .int .u64 u2, .string u3, .slice A na c, .slice B nb d], .string key] W fun e w' => e = .returned (.int .i64 (idxZ ks key)) ∧ Keeps (fun _ => False) W w') := Lib.hid fun W hW => rfind_any W _ (.obj ks l) (RAt.stay h hW) hn key
  have HB2 := Lib.hid hb2
  have HB1 := Lib.hid hb1
  have HL : Hid (ks.length = l.length) := Lib.hid hl
  obtain ⟨csf, hna, hrow, hits⟩ : ∃ csf : Nat → List Value, na = l.length ∧ RowS w A na csf ∧ ∀ (i : Nat) (x : JV), l[i]? = some x → RAt (fun i => D i ∧ i < w.heap.size) w (csf i) x := by
   obtain ⟨A', c', B', d', cs', hv', hA', _, _, _, hx'⟩ := RAt.form h
   injection hv' with _ hv'
   injection hv' with _ hv'
   injection hv' with _ hv'
   injection hv' with _ hv'
   injection hv' with hv' _
   injection hv' with e1 e2 e3
   subst e1 e2 e3
   exact ⟨cs', rfl, hA', hx'⟩
  have HIT := Lib.hid (And.intro hna (And.intro hrow hits))
  rw [← hbb2] at HB2
  have HBB := Lib.hid hbb2
  clear h hso h6 hl hn hb1 hb2 hna hrow hits f0 f1 f2 f3 f4 f5 hbb2
  have hfz := HB2.out.frozen 0
  go_enter Tryz.func41, Tryz.ntmps41
  go_upto_region 4 with (go_at_call 70; refine (HFI.out _ HK.out).mono ?_; rintro e w3 ⟨rfl, hk3⟩; have HK3 := Lib.hid hk3; clear hk3)
  rw [← HBB.out]
  have h3 := HK3.out.blk HB2.out (fun h => h)
  have h1 := HK3.out.blk HB1.out (fun h => h)
  have x4 := h1.cell 4
  have d0 := h3.cell 0
  have d1 := h3.cell 1
  have d2 := h3.cell 2
  have d3 := h3.cell 3
  have d4 := h3.cell 4
  have d5 := h3.cell 5
  have e0 := h3.frozen 0
  have e1 := h3.frozen 1
  have e2 := h3.frozen 2
  have e3 := h3.frozen 3
  have e4 := h3.frozen 4
  have e5 := h3.frozen 5
  have HZ3 := Lib.hid h3
  have HX := Lib.hid (And.intro HIT.out HL.out)
  clear h3 h1 hfz c0 c1 c2 c3 c4 c5 hne
  have HKW := Lib.hid (HK.out.trans HK3.out fun _ _ h => h)
  have HEND : Hid (∀ (v0 v1 v2 v3 v4 v5 : Value) (o' : Option JV), ORAt (fun i => D i ∧ i < w.heap.size) w3 [v0, v1, v2, v3, v4, v5] o' → Blk (sixSet w3 b2 v0 v1 v2 v3 v4 v5) b2 31 [v0, v1, v2, v3, v4, v5] ∧ ORPost D w o' (.returned (.agg #[v0, v1, v2, v3, v4, v5])) (sixSet w3 b2 v0 v1 v2 v3 v4 v5)) := Lib.hid fun v0 v1 v2 v3 v4 v5 o' ho' => by
   have hk6 := six_keeps w3 b2 v0 v1 v2 v3 v4 v5
   refine ⟨six_blk HZ3.out _ _ _ _ _ _, [v0, v1, v2, v3, v4, v5], rfl, (ho'.keep hk6 fun i h e => by have := h.2; have := HBB.out; omega).mono fun i h _ => h.1, HKW.out.trans hk6 fun i hi e => by have := HBB.out; omega⟩
  rcases idxZ_atK (ks := ks) (l := l) (key := key) with ⟨hi, ha⟩ | ⟨i, hi, hki, ha⟩
  ·rw [hi]
   have HA := Lib.hid (HEND.out _ _ _ _ _ _ none rfl)
   have HAK : Hid (atK (mem2 (some (JV.obj ks l))).1 (mem2 (some (JV.obj ks l))).2 key = none) := Lib.hid ha
   clear hi ha
   go_wp2
   refine bodyPost_ret (results_blk rfl _ _ rfl HA.out.1 Tryz.underlying31 rfl (by kernel_rfl)) rfl ?_
   rw [HAK.out]
   exact HA.out.2
  ·rw [hi]
   have HAK : Hid (atK (mem2 (some (JV.obj ks l))).1 (mem2 (some (JV.obj ks l))).2 key = l[i]?) := Lib.hid ha
   have hin : i < l.length := by rw [← HX.out.2]; exact (List.getElem?_eq_some_iff.1 hki).1
   obtain ⟨x, hx⟩ : ∃ x, l[i]? = some x := ⟨_, List.getElem?_eq_getElem hin⟩
   rw [← HX.out.1.1] at hin
   obtain ⟨g, o2, hAe, hrg0⟩ := HX.out.1.2.1 (by omega)
   subst hAe
   have hrx := (HX.out.1.2.2 i x hx).stay HKW.out
   have hrg : w3.rangeAt g (o2 + i * 6) (csf i) := fun q u hu => cell_keep HKW.out (hrg0 i hin q u hu)
   obtain ⟨t1, t2, t3, A6, m6, c6, B6, n6, d6, hv5⟩ := ORAt.six (o := some x) hrx
   rw [hv5] at hrx hrg
   obtain ⟨t0, ht0⟩ : ∃ t0, t0 = osort (some x) := ⟨_, rfl⟩
   rw [← ht0] at hrx hrg
   have r0 : w3.cell? ⟨g, o2 + i * 6, none⟩ = some (.int .i64 t0) := by have := hrg 0 _ rfl; simpa using this
   have r1 := hrg 1 _ rfl
   have r2 := hrg 2 _ rfl
   have r3 := hrg 3 _ rfl
   have r4 := hrg 4 _ rfl
   have r5 := hrg 5 _ rfl
   have HA := Lib.hid (HEND.out _ _ _ _ _ _ (some x) hrx)
   have HXI := Lib.hid hx
   have hi63 : (0 : Int) ≤ (i : Int) := by omega
   have hiN : (i : Int) < (na : Int) := by omega
   clear hi ha hki hx hrg0 hrx hrg hv5 hin ht0
   go_wp2
   refine bodyPost_ret (results_blk rfl _ _ rfl HA.out.1 Tryz.underlying31 rfl (by kernel_rfl)) rfl ?_
   rw [HAK.out, HXI.out]
   exact HA.out.2
 ·have hne : (so != 6) = true := by simpa using h6
  have HM : Hid (atK (mem2 o).1 (mem2 o).2 key = none) := Lib.hid (by rw [mem2_none (by rw [← hso]; exact h6), atK_nil])
  have HB2 := Lib.hid hb2
  clear h hso h6 hl hn hb1 hb2 hbb2
  go_enter Tryz.func41, Tryz.ntmps41
  go_wp2
  refine bodyPost_ret (results_blk rfl _ _ rfl HB2.out Tryz.underlying31 rfl (by kernel_rfl)) rfl ⟨_, rfl, by rw [HM.out]; rfl, HK.out⟩
end Go.Proofs.YtdmcioghdindfaaGreatDoor
namespace Go.Json
theorem maxN_sum {α : Type} (f g : α → Nat) (l : List α) (h : ∀ x ∈ l, f x ≤ g x) : maxN (l.map f) ≤ sumN (l.map g) := by
 induction l with
 | nil => exact Nat.le_refl _
 | cons x l ih =>
  have h1 := h x (List.mem_cons_self ..)
  have h2 := ih fun y hy => h y (List.mem_cons_of_mem _ hy)
  simp only [List.map_cons, maxN, sumN]; omega
theorem deep_le : ∀ j : JV, j.deep ≤ j.nodes := by
 refine JV.by_parts fun j ih => ?_
 rw [JV.deep_eq, JV.nodes_eq]
 have := maxN_sum (fun x : JV => x.deep) (fun x => x.nodes) j.items ih
 omega
theorem small_of {j : JV} (h1 : j.nodes ≤ 1048576) (h2 : j.bytes ≤ 1099511627776) : SmallJ j := ⟨by omega, by omega, by have := deep_le j; omega⟩
end Go.Json
namespace Go.Aff
open Go Go.RowKit
theorem wpList_load_whole_g {P : Program} {w : World} {g : Nat} {t : TypeId} {cs : List Value} {ops : Array Oper} {rest : List Oper} {o : Oper} {a : Act} {Q : Exit → Act → World → Prop} (hgd : Region.wanted o (yielded ops a.tmps) = true) (ty : TypeId) (x : Operand) (ho : o.op = .load ty x)
  (d : TypeDesc) (hx : a.eval x = .pointer (some ⟨g, 0, none⟩)) (hg : Blk w g t cs)
  (hu : P.underlying ty = some d) (hd : (match d with | .struct _ | .array _ _ => true | _ => false) = true) (hi : (P.info? ty).map (·.size) = some cs.length)
  (h : wpList P ops Q rest (a.put o.dst (.agg cs.toArray)) w) : wpList P ops Q (o :: rest) a w :=
 wpList_step fun _ hK => by
  rw [if_pos hgd]
  unfold Oper.wp execOp
  simp only [ho, hx, Instr.loadAt, Instr.sureAddr, Sem.run_bind, Sem.run_pure, Result.andThen_ok, run_loadVar_row w g t ty cs.toArray (0, 0) d hg hu hd (by simpa using hi)]
  exact hK _ _ h
end Go.Aff
namespace Go.Proofs.YtdmcioghdindfaaGreatDoor
open Go Go.RowKit Go.Aff Go.Json
attribute [local go_sem] Oper.semAt_some
theorem infoVal6 {v : List Value} (h : v.length = 6) : (Tryz.prog.info? 31).map (·.size) = some v.length := by rw [h]; kernel_rfl
theorem errno_three (w : World) : Calls Tryz.prog 12 #[errE 3, .int .i64 3] w fun e w' => e = .returned (.bool true) ∧ w' = w := by
 have HA := as_errno_errno
 unfold errE
 go_enter Tryz.func12, Tryz.ntmps12
 go_wp2
 go_ret
 exact ⟨rfl, rfl⟩
theorem answered_any {D E : Nat → Prop} (w : World) (j : JV) (p x : Value) (v : List Value) (h : (∃ q u, p = .pointer (some ⟨q, 0, none⟩) ∧ x = .nilIface ∧ TreeAt D w q u j ∧ j.within) ∨ (p = .pointer none ∧ x = errE 3 ∧ ¬ j.within)) (hr : RAt E w v j) (hok : JOk j) (hs : SmallJ j) :
  Calls Tryz.prog 25 #[p, x, .agg v.toArray] w fun e w' => e = .returned (.bool true) ∧ Keeps (fun _ => False) w w' := by
 have hbx := Blk.new w 31 v
 have hk1 : Keeps (fun _ => False) w (w.alloc (.cells v.toArray 31)) := (Keeps.refl _ w).alloc _
 have HBX := Lib.hid hbx
 have HK1 := Lib.hid hk1
 have HSV := Lib.hid (infoVal6 hr.len)
 rcases h with ⟨q, u, rfl, rfl, ht, hw⟩ | ⟨rfl, rfl, hw⟩
 ·have HWI : Hid (Calls Tryz.prog 11 #[.agg v.toArray] (w.alloc (.cells v.toArray 31)) fun e w' => e = .returned (.bool true) ∧ Keeps (fun _ => False) (w.alloc (.cells v.toArray 31)) w') := Lib.hid ((rwithin_any _ v j (hr.stay hk1) hs hok).mono fun e w' h => ⟨by rw [h.1, decide_eq_true hw], h.2⟩)
  have HIS : Hid (∀ W, Keeps (fun _ => False) w W → Calls Tryz.prog 13 #[.pointer (some ⟨q, 0, none⟩), .agg v.toArray] W fun e w' => e = .returned (.bool true) ∧ Hid (Keeps (fun _ => False) w w')) := Lib.hid fun W hW => (is_same W q u v j ⟨ht.1, hW.blk ht.2.1 (fun h => h), ht.2.2.stay hW⟩ (hr.stay hW) hok (Nat.le_trans hw.1 (by decide))).mono fun e w' h => ⟨h.1, Lib.hid (hW.trans h.2 fun _ _ h => h)⟩
  clear hbx hk1 ht hw hr hok hs
  go_enter Tryz.func25, Tryz.ntmps25
  go_wp2_with (first
   | ((with_reducible show wpList _ _ _ (⟨some 7, _, _, _, _, _⟩ :: _) _ _); refine wpList_load_whole rfl 31 _ rfl _ rfl HBX.out Tryz.underlying31 rfl HSV.out ?_)
   | (go_at_call 11; refine HWI.out.mono ?_; rintro e w2 ⟨rfl, hk2⟩; have HK2 := Lib.hid hk2; have HB2 := Lib.hid (hk2.blk HBX.out (fun h => h)); clear hk2)
   | ((with_reducible show wpList _ _ _ (⟨some 20, _, _, _, _, _⟩ :: _) _ _); refine wpList_load_whole_g (by kernel_rfl) 31 _ rfl _ rfl HB2.out Tryz.underlying31 rfl HSV.out ?_)
   | (go_at_call 13; refine (HIS.out _ (HK1.out.trans HK2.out fun _ _ h => h)).mono ?_; rintro e w3 ⟨rfl, hk3⟩))
  go_ret
  exact ⟨rfl, hk3.out⟩
 ·have HWI : Hid (Calls Tryz.prog 11 #[.agg v.toArray] (w.alloc (.cells v.toArray 31)) fun e w' => e = .returned (.bool false) ∧ Keeps (fun _ => False) (w.alloc (.cells v.toArray 31)) w') := Lib.hid ((rwithin_any _ v j (hr.stay hk1) hs hok).mono fun e w' h => ⟨by rw [h.1, decide_eq_false hw], h.2⟩)
  have HER := Lib.hid (fun W => errno_three W)
  unfold errE at HER ⊢
  clear hbx hk1 hw hr hok hs
  go_enter Tryz.func25, Tryz.ntmps25
  go_wp2_with (first
   | ((with_reducible show wpList _ _ _ (⟨some 7, _, _, _, _, _⟩ :: _) _ _); refine wpList_load_whole rfl 31 _ rfl _ rfl HBX.out Tryz.underlying31 rfl HSV.out ?_)
   | (go_at_call 11; refine HWI.out.mono ?_; rintro e w2 ⟨rfl, hk2⟩; have HK2 := Lib.hid hk2; clear hk2)
   | (go_at_call 12; refine (HER.out _).mono ?_; rintro e w3 ⟨rfl, rfl⟩))
  go_ret
  exact ⟨rfl, HK1.out.trans HK2.out fun _ _ h => h⟩
end Go.Proofs.YtdmcioghdindfaaGreatDoor
namespace Go.Proofs
open Go.Shelf
def Tryz.lays194_ren : Go.Shelf.Ren := ⟨fun | 194 => 62 | n => n, fun | 31 => 29 | 9 => 9 | 3 => 3 | 4 => 4 | 0 => 0 | n => n, fun | n => n⟩
theorem Tryz.lays194 : Go.Proofs.Lays.n194 Tryz.prog Tryz.lays194_ren := {
 mixed := by kernel_rfl
 f194 := Tryz.func62.trans (congrArg some (by kernel_rfl))
 t0 := Tryz.underlying0
 a0 := Tryz.isAgg0
 z0 := Tryz.sizeOf0
 v0 := Tryz.zeroValue0
 t3 := Tryz.underlying3
 a3 := Tryz.isAgg3
 z3 := Tryz.sizeOf3
 v3 := Tryz.zeroValue3
 t4 := Tryz.underlying4
 a4 := Tryz.isAgg4
 z4 := Tryz.sizeOf4
 v4 := Tryz.zeroValue4
 t9 := Tryz.underlying9
 a9 := Tryz.isAgg9
 z9 := Tryz.sizeOf9
 v9 := Tryz.zeroValue9
 t31 := Tryz.underlying29
 a31 := Tryz.isAgg29
 z31 := Tryz.sizeOf29
 v31 := Tryz.zeroValue29 }
open Go.RowKit Go.Lib Go.Sort in
theorem Tryz.slices_Compact_string_cells (b off n c : Nat) (Sx : Nat → ByteArray) (w : World) (hbig : n ≤ 9223372036854775807) (hcap : n ≤ c) (hc : ∀ i, i < n → w.cell? ⟨b, off + i, none⟩ = some (.string (Sx i))) (hf : ∀ j, j < n → w.frozen? ⟨b, off + j, none⟩ = false) :
  Calls Tryz.prog 62 #[.slice (some ⟨b, off, none⟩) n c] w fun e w' => e = .returned (.slice (some ⟨b, off, none⟩) (Lib.compact (Lib.strsOf Sx n)).length c) ∧ ∃ q, w' = (w.drewN q).setCells b off ((Lib.compact (Lib.strsOf Sx n) ++ List.replicate (n - (Lib.compact (Lib.strsOf Sx n)).length) []).map encStr) := Any.slices_Compact_string_cells Tryz.lays194 b off n c Sx w hbig hcap hc hf
end Go.Proofs
