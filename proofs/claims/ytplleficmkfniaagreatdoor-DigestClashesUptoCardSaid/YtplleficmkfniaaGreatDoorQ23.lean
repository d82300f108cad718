/- Texts. -/
import Derived.Test.YtplleficmkfniaaGreatDoorQ22
set_option linter.unusedSimpArgs false
set_option maxRecDepth 100000
set_option maxHeartbeats 4000000
namespace Go.Proofs.YtplleficmkfniaaGreatDoor
open Go Go.RowKit Go.Aff Go.Json
structure StepCells (W : World) (b : Nat) (SV : List Value) (s : StepV) (B : Option Addr) (d : Nat) : Prop where
 c0 : W.cell? ⟨b, 0, none⟩ = some (.int .i64 s.sort)
 c1 : W.cell? ⟨b, 1, none⟩ = some (.bool s.flag)
 c2 : W.cell? ⟨b, 2, none⟩ = some (.int .u64 s.bits)
 c3 : W.cell? ⟨b, 3, none⟩ = some (.string s.text)
 c4 : W.cell? ⟨b, 4, none⟩ = some (.int .i64 s.count)
 c5 : W.cell? ⟨b, 5, none⟩ = some (.slice B s.keys.length d)
structure DoQ (w W : World) (SV : List Value) (s : StepV) (B : Option Addr) (d : Nat) : Prop where
 blk : Blk W w.heap.size 131 SV
 err : Blk W (w.heap.size + 1) 32 [.nilIface]
 keep : Keeps (fun _ => False) w W
 sv : SV = stepV s B d
theorem DoQ.cells {w W : World} {SV : List Value} {s : StepV} {B : Option Addr} {d : Nat} (h : DoQ w W SV s B d) : StepCells W w.heap.size SV s B d := by
 have hb := h.blk
 rw [h.sv] at hb
 exact ⟨hb.cell 0, hb.cell 1, hb.cell 2, hb.cell 3, hb.cell 4, hb.cell 5⟩
theorem DoQ.stay {w W W' : World} {SV : List Value} {s : StepV} {B : Option Addr} {d : Nat} (h : DoQ w W SV s B d) (k : Keeps (fun _ => False) W W') : DoQ w W' SV s B d := ⟨k.blk h.blk (fun h => h), k.blk h.err (fun h => h), h.keep.trans k (fun _ _ h => h), h.sv⟩
theorem DoQ.made (w : World) (s : StepV) (B : Option Addr) (d : Nat) : DoQ w ((w.alloc (.cells (stepV s B d).toArray 131)).alloc (.cells #[.nilIface] 32)) (stepV s B d) s B d := by
 have hb1 := (Blk.new w 131 (stepV s B d)).alloc (.cells #[.nilIface] 32)
 have hb2 := Blk.new (w.alloc (.cells (stepV s B d).toArray 131)) 32 [.nilIface]
 rw [World.size_alloc] at hb2
 exact ⟨hb1, hb2, ((Keeps.refl (fun _ => False) w).alloc _).alloc _, rfl⟩
def refC (j : JV) (A : Option Addr) (c : Nat) (B : Option Addr) (d : Nat) : List Value :=
 [.int .i64 j.sort, .bool j.last.flag, .int .u64 j.last.bits, .string j.last.text, .slice A j.items.length c, .slice B j.keys.length d]
theorem refC_one (j : JV) (A : Option Addr) (c : Nat) (B : Option Addr) (d : Nat) : ∀ u ∈ refC j A c B d, u.oneCell' = true := by
 intro u hu
 simp only [refC, List.mem_cons, List.not_mem_nil, or_false] at hu
 rcases hu with rfl | rfl | rfl | rfl | rfl | rfl <;> rfl
def RowS (w : World) (A : Option Addr) (n : Nat) (cs : Nat → List Value) : Prop := 0 < n → ∃ g o, A = some ⟨g, o, none⟩ ∧ ∀ i, i < n → w.rangeAt g (o + i * 6) (cs i)
theorem RowS.keep {F : Nat → Prop} {w w' : World} {A : Option Addr} {n : Nat} {cs : Nat → List Value} (h : RowS w A n cs) (hk : Keeps F w w') (hF : 0 < n → ∀ a, A = some a → ¬ F a.block) : RowS w' A n cs := fun hn => by
 obtain ⟨g, o, e, hc⟩ := h hn
 refine ⟨g, o, e, fun i hi j v hv => ?_⟩
 have h1 := hc i hi j v hv
 exact (hk.cell (World.block_lt_of_cell? w _ h1) (fun hb => hF hn ⟨g, o, none⟩ e hb)).trans h1
inductive RAt (D : Nat → Prop) (w : World) : List Value → JV → Prop
 | mk (j : JV) (A : Option Addr) (c : Nat) (B : Option Addr) (d : Nat) (cs : Nat → List Value) (hA : RowS w A j.items.length cs) (oA : InB D A j.items.length)
   (hB : Rd w B j.keys.length (j.keys.map .string)) (oB : InB D B j.keys.length) (h : ∀ (i : Nat) (x : JV), j.items[i]? = some x → RAt D w (cs i) x) : RAt D w (refC j A c B d) j
theorem RAt.keep {D F : Nat → Prop} {w w' : World} {v : List Value} {j : JV} (h : RAt D w v j) (hk : Keeps F w w') (hF : ∀ i, D i → ¬ F i) : RAt D w' v j := by
 induction h with
 | mk j A c B d cs hA oA hB oB _ ih => exact .mk j A c B d cs (hA.keep hk (oA.out hF)) oA (hB.keep hk (oB.out hF)) oB ih
theorem RAt.stay {D : Nat → Prop} {w w' : World} {v : List Value} {j : JV} (h : RAt D w v j) (hk : Keeps (fun _ => False) w w') : RAt D w' v j := h.keep hk (fun _ _ h => h)
theorem RAt.len {D : Nat → Prop} {w : World} {v : List Value} {j : JV} (h : RAt D w v j) : v.length = 6 := by cases h; rfl
theorem RAt.one {D : Nat → Prop} {w : World} {v : List Value} {j : JV} (h : RAt D w v j) : ∀ u ∈ v, u.oneCell' = true := by cases h; exact refC_one _ _ _ _ _
theorem RAt.form {D : Nat → Prop} {w : World} {v : List Value} {j : JV} (h : RAt D w v j) : ∃ A c B d cs, v = refC j A c B d ∧ RowS w A j.items.length cs ∧ InB D A j.items.length ∧ Rd w B j.keys.length (j.keys.map .string) ∧ InB D B j.keys.length ∧ ∀ (i : Nat) (x : JV), j.items[i]? = some x → RAt D w (cs i) x := by
 cases h with
 | mk j A c B d cs hA oA hB oB h => exact ⟨A, c, B, d, cs, rfl, hA, oA, hB, oB, h⟩
theorem RowS.inB {w : World} {A : Option Addr} {n : Nat} {cs : Nat → List Value} {D C : Nat → Prop} (h : RowS w A n cs) (hcs : ∀ i, i < n → cs i ≠ []) (hD : InB D A n) (hC : ∀ i, D i → i < w.heap.size → C i) : InB C A n := fun hn a e => by
 obtain ⟨g, o, e2, hl⟩ := h hn
 rw [e] at e2
 injection e2 with e2
 subst e2
 refine hC _ (hD hn _ e) ?_
 have := hl 0 hn
 match hq : cs 0 with
 | [] => exact absurd hq (hcs 0 hn)
 | v :: _ =>
  rw [hq] at this
  have h1 := this 0 v rfl
  exact World.block_lt_of_cell? w _ h1
theorem RAt.mono {D C : Nat → Prop} {w : World} {v : List Value} {j : JV} (h : RAt D w v j) (hC : ∀ i, D i → i < w.heap.size → C i) : RAt C w v j := by
 induction h with
 | mk j A c B d cs hA oA hB oB h ih =>
  refine .mk j A c B d cs hA (hA.inB (fun i hi he => ?_) oA hC) hB (Rd.inB hB oB hC) ih
  have := (h i _ (List.getElem?_eq_getElem hi)).len
  rw [he] at this
  cases this
def RList (D : Nat → Prop) (w : World) (css : List (List Value)) (js : List JV) : Prop := css.length = js.length ∧ ∀ (i : Nat) (cs : List Value) (x : JV), css[i]? = some cs → js[i]? = some x → RAt D w cs x
theorem RList.nil (D : Nat → Prop) (w : World) : RList D w [] [] := ⟨rfl, fun i cs x h => by simp at h⟩
theorem RList.keep {D F : Nat → Prop} {w w' : World} {css : List (List Value)} {js : List JV} (h : RList D w css js) (hk : Keeps F w w') (hF : ∀ i, D i → ¬ F i) : RList D w' css js := ⟨h.1, fun i cs x h1 h2 => (h.2 i cs x h1 h2).keep hk hF⟩
theorem RList.stay {D : Nat → Prop} {w w' : World} {css : List (List Value)} {js : List JV} (h : RList D w css js) (hk : Keeps (fun _ => False) w w') : RList D w' css js := h.keep hk (fun _ _ h => h)
theorem RList.mono {D C : Nat → Prop} {w : World} {css : List (List Value)} {js : List JV} (h : RList D w css js) (hC : ∀ i, D i → i < w.heap.size → C i) : RList C w css js := ⟨h.1, fun i cs x h1 h2 => (h.2 i cs x h1 h2).mono hC⟩
theorem RList.app {D : Nat → Prop} {w : World} {css dss : List (List Value)} {js ks : List JV} (h : RList D w css js) (h2 : RList D w dss ks) : RList D w (css ++ dss) (js ++ ks) := by
 refine ⟨by rw [List.length_append, List.length_append, h.1, h2.1], fun i cs x h3 h4 => ?_⟩
 rcases Nat.lt_or_ge i css.length with hi | hi
 ·rw [List.getElem?_append_left hi] at h3
  rw [List.getElem?_append_left (by rw [← h.1]; exact hi)] at h4
  exact h.2 i cs x h3 h4
 ·rw [List.getElem?_append_right hi] at h3
  rw [List.getElem?_append_right (by rw [← h.1]; exact hi), ← h.1] at h4
  exact h2.2 _ cs x h3 h4
theorem RList.one {D : Nat → Prop} {w : World} {cs : List Value} {j : JV} (h : RAt D w cs j) : RList D w [cs] [j] := ⟨rfl, fun i c x h1 h2 => by
 match i with
 | 0 => simp at h1 h2; subst h1 h2; exact h
 | _ + 1 => simp at h1⟩
theorem RList.take {D : Nat → Prop} {w : World} {css : List (List Value)} {js : List JV} (h : RList D w css js) (k : Nat) : RList D w (css.take k) (js.take k) := by
 refine ⟨by rw [List.length_take, List.length_take, h.1], fun i cs x h3 h4 => ?_⟩
 rw [List.getElem?_take] at h3 h4
 split at h3
 ·rename_i hi; rw [if_pos hi] at h4; exact h.2 i cs x h3 h4
 ·cases h3
theorem RList.drop {D : Nat → Prop} {w : World} {css : List (List Value)} {js : List JV} (h : RList D w css js) (k : Nat) : RList D w (css.drop k) (js.drop k) := by
 refine ⟨by rw [List.length_drop, List.length_drop, h.1], fun i cs x h3 h4 => ?_⟩
 rw [List.getElem?_drop] at h3 h4
 exact h.2 _ cs x h3 h4
theorem RList.six {D : Nat → Prop} {w : World} {css : List (List Value)} {js : List JV} (h : RList D w css js) : ∀ c ∈ css, c.length = 6 := fun c hc => by
 obtain ⟨i, hi⟩ := List.getElem?_of_mem hc
 have hlt := (List.getElem?_eq_some_iff.1 hi).1
 exact (h.2 i c _ hi (List.getElem?_eq_getElem (by rw [← h.1]; exact hlt))).len
theorem RList.cells {D : Nat → Prop} {w : World} {css : List (List Value)} {js : List JV} (h : RList D w css js) : ∀ u ∈ css.flatten, u.oneCell' = true := fun u hu => by
 obtain ⟨c, hc, hu⟩ := List.mem_flatten.1 hu
 obtain ⟨i, hi⟩ := List.getElem?_of_mem hc
 have hlt := (List.getElem?_eq_some_iff.1 hi).1
 exact (h.2 i c _ hi (List.getElem?_eq_getElem (by rw [← h.1]; exact hlt))).one u hu
theorem flat_len : ∀ {css : List (List Value)}, (∀ c ∈ css, c.length = 6) → css.flatten.length = css.length * 6
 | [], _ => rfl
 | c :: css, h => by
  rw [List.flatten_cons, List.length_append, h c List.mem_cons_self, flat_len fun d hd => h d (List.mem_cons_of_mem _ hd), List.length_cons]
  omega
theorem flat_get : ∀ {css : List (List Value)} {i k : Nat} {c : List Value} {v : Value}, (∀ c ∈ css, c.length = 6) → css[i]? = some c → c[k]? = some v → css.flatten[i * 6 + k]? = some v
 | [], _, _, _, _, _, h, _ => by simp at h
 | d :: css, 0, k, c, v, _, h, h2 => by
  simp at h
  subst h
  rw [List.flatten_cons, List.getElem?_append_left (by rw [Nat.zero_mul, Nat.zero_add]; exact (List.getElem?_eq_some_iff.1 h2).1), Nat.zero_mul, Nat.zero_add]
  exact h2
 | d :: css, i + 1, k, c, v, hs, h, h2 => by
  have hd := hs d List.mem_cons_self
  rw [List.flatten_cons, List.getElem?_append_right (by rw [hd]; omega), hd, show (i + 1) * 6 + k - 6 = i * 6 + k by omega]
  exact flat_get (fun c hc => hs c (List.mem_cons_of_mem _ hc)) (by simpa using h) h2
theorem RowS.of {w : World} {A : Option Addr} {n : Nat} {css : List (List Value)} (h : RdS 6 w A n css.flatten) (hs : ∀ c ∈ css, c.length = 6) (hn : css.length = n) : RowS w A n fun i => css.getD i [] := fun h0 => by
 obtain ⟨g, o, e, hc⟩ := h.2 h0
 refine ⟨g, o, e, fun i hi k v hv => ?_⟩
 obtain ⟨c, hci⟩ : ∃ c, css[i]? = some c := ⟨_, List.getElem?_eq_getElem (by omega)⟩
 have hg : css.getD i [] = c := by rw [List.getD_eq_getElem?_getD, hci]; rfl
 have hv : (css.getD i [])[k]? = some v := hv
 rw [hg] at hv
 have hk : k < 6 := by rw [← hs c (List.mem_of_getElem? hci)]; exact (List.getElem?_eq_some_iff.1 hv).1
 have := hc (i * 6 + k) (by omega)
 rw [flat_get hs hci hv] at this
 show w.cell? ⟨g, o + i * 6 + k, none⟩ = some v
 rw [Nat.add_assoc]
 exact this
theorem RAt.of {D : Nat → Prop} {w : World} (j : JV) {A : Option Addr} {c : Nat} {B : Option Addr} {d : Nat} {css : List (List Value)} (hr : RList D w css j.items) (hA : RdS 6 w A j.items.length css.flatten) (oA : InB D A j.items.length)
  (hB : Rd w B j.keys.length (j.keys.map .string)) (oB : InB D B j.keys.length) : RAt D w (refC j A c B d) j := by
 refine .mk j A c B d (fun i => css.getD i []) (RowS.of hA hr.six hr.1) oA hB oB fun i x hx => ?_
 have hi : i < css.length := by rw [hr.1]; exact (List.getElem?_eq_some_iff.1 hx).1
 obtain ⟨cs, hcs⟩ : ∃ c, css[i]? = some c := ⟨_, List.getElem?_eq_getElem hi⟩
 have hg : css.getD i [] = cs := by rw [List.getD_eq_getElem?_getD, hcs]; rfl
 rw [hg]
 exact hr.2 i cs x hcs hx
theorem RAt.leaf {D : Nat → Prop} {w : World} (j : JV) (h : j.items = []) (h2 : j.keys = []) : RAt D w (refC j none 0 none 0) j := by
 have hi : j.items.length = 0 := by rw [h]; rfl
 have hk : j.keys.length = 0 := by rw [h2]; rfl
 refine .mk j none 0 none 0 (fun _ => []) (fun h0 => by omega) (fun h0 => by omega) ⟨by rw [h2]; rfl, fun h0 => by omega⟩ (fun h0 => by omega) fun i x hx => ?_
 rw [h] at hx
 simp at hx
end Go.Proofs.YtplleficmkfniaaGreatDoor
namespace Go.Json
inductive JOk : JV → Prop
 | mk (j : JV) (h1 : j.keys.length ≤ j.items.length) (h2 : j.sort = 6 → j.keys.length = j.items.length) (hp : j.keys.Pairwise ltS) (hr : ∀ k ∈ j.keys, rightS k = true) (ht : rightS j.last.text = true) (h : ∀ x, x ∈ j.items → JOk x) : JOk j
theorem JOk.form {j : JV} (h : JOk j) : j.keys.length ≤ j.items.length ∧ (j.sort = 6 → j.keys.length = j.items.length) ∧ j.keys.Pairwise ltS ∧ (∀ k ∈ j.keys, rightS k = true) ∧ rightS j.last.text = true ∧ ∀ x, x ∈ j.items → JOk x := by
 cases h with
 | mk _ h1 h2 hp hr ht h => exact ⟨h1, h2, hp, hr, ht, h⟩
theorem items_nodes (j : JV) : j.items.length + 1 ≤ j.nodes := by
 have h : ∀ l : List JV, l.length ≤ sumN (l.map fun x => x.nodes) := by
  intro l
  induction l with
  | nil => simp [sumN]
  | cons x l ih =>
   simp only [List.map_cons, sumN, List.length_cons]
   have : 1 ≤ x.nodes := by rw [JV.nodes_eq]; omega
   omega
 have := h j.items
 rw [JV.nodes_eq]
 omega
def SmallJ (j : JV) : Prop := j.nodes ≤ 1152921504606846976 ∧ j.bytes ≤ 1152921504606846976 ∧ j.deep ≤ 1152921504606846976
theorem sumN_mem {l : List Nat} {x : Nat} (h : x ∈ l) : x ≤ sumN l := by
 induction l with
 | nil => cases h
 | cons y l ih =>
  simp only [sumN]
  rcases List.mem_cons.1 h with rfl | h
  ·omega
  ·have := ih h; omega
theorem maxN_mem {l : List Nat} {x : Nat} (h : x ∈ l) : x ≤ maxN l := by
 induction l with
 | nil => cases h
 | cons y l ih =>
  simp only [maxN]
  rcases List.mem_cons.1 h with rfl | h
  ·omega
  ·have := ih h; omega
theorem SmallJ.item {j x : JV} (h : SmallJ j) (hx : x ∈ j.items) : SmallJ x := by
 obtain ⟨h1, h2, h3⟩ := h
 rw [JV.nodes_eq] at h1
 rw [JV.bytes_eq] at h2
 rw [JV.deep_eq] at h3
 have a := sumN_mem (List.mem_map.2 ⟨x, hx, rfl⟩ : x.nodes ∈ j.items.map fun x => x.nodes)
 have b := sumN_mem (List.mem_map.2 ⟨x, hx, rfl⟩ : x.bytes ∈ j.items.map fun x => x.bytes)
 have c := maxN_mem (List.mem_map.2 ⟨x, hx, rfl⟩ : x.deep ∈ j.items.map fun x => x.deep)
 exact ⟨by omega, by omega, by omega⟩
end Go.Json
namespace Go.Proofs.YtplleficmkfniaaGreatDoor
open Go Go.RowKit Go.Aff Go.Json
structure Boxed (w W : World) (b : Nat) (T : TypeId) (SV : List Value) : Prop where
 keep : Keeps (fun _ => False) w W
 blk : Blk W b T SV
theorem Boxed.made (w : World) (T : TypeId) (SV : List Value) : Boxed w (w.alloc (.cells SV.toArray T)) w.heap.size T SV := ⟨(Keeps.refl _ w).alloc _, Blk.new w T SV⟩
theorem Boxed.stay {w W W' : World} {b : Nat} {T : TypeId} {SV : List Value} (h : Boxed w W b T SV) (k : Keeps (fun _ => False) W W') : Boxed w W' b T SV := ⟨h.keep.trans k (fun _ _ h => h), k.blk h.blk (fun h => h)⟩
end Go.Proofs.YtplleficmkfniaaGreatDoor
