/-
  WALKS: the pile of errors: slices.Clone of errors; on, off.
-/
import Derived.Test.YtinonjfnhedlpaaDoorProg
import Derived.Test.YtinonjfnhedlpaaDoorFTree
import Derived.Test.YtinonjfnhedlpaaDoorTailK
import Derived.WalkSpells
import Derived.WalkLawsBesides
import Derived.Lib.Hide
import Derived.Lib.BytesEntry
import Derived.Handy
import Derived.Deep.CutBlock
import Derived.Laws.CopyOwn
import Derived.Laws.AppendOwnNone
import Derived.Deep.OwnRows
import Derived.Deep.RegionHeld3
import Derived.Stop.Asserts
set_option linter.unusedSimpArgs false
namespace Go.Aff
open Go Go.RowKit
theorem no_outF (A : Option Addr) (n : Nat) : Out (fun _ => False) A n := fun _ _ _ h => h
theorem Blk.keepF {F : Nat → Prop} {w w' : World} {g : Nat} {t : TypeId} {cs : List Value} (h : Blk w g t cs) (hk : Keeps F w w') (hF : ¬ F g) : Blk w' g t cs := hk.blk h hF
end Go.Aff
namespace Go.Proofs.YtinonjfnhedlpaaDoor
open Go Go.RowKit Go.Aff Go.Fault
theorem infoE : (Tryd.prog.info? 24).map (fun i => (i.zero, i.size, i.bytes)) = some (some .nilIface, 1, 16) := by kernel_rfl
theorem infoI : (Tryd.prog.info? 3).map (fun i => (i.zero, i.size, i.bytes)) = some (some (.int .i64 0), 1, 8) := by kernel_rfl
theorem vv_one (t : VT) : (vv t).oneCell' = true := by cases t <;> rfl
theorem vv_all (l : List VT) : ∀ u ∈ l.map vv, u.oneCell' = true := fun u hu => by
  obtain ⟨t, _, rfl⟩ := List.mem_map.1 hu
  exact vv_one t
set_option maxRecDepth 100000 in
theorem cloneE_any (w : World) (A : Option Addr) (n c : Nat) (xs : List Value) (hr : Rd w A n xs) (h1 : ∀ u ∈ xs, u.oneCell' = true) (hn : n ≤ 8796093022208) :
    Calls Tryd.prog 37 #[.slice A n c] w fun e w' => ∃ A' c', e = .returned (.slice A' n c') ∧ Mine w w' 24 A' n c' xs := by
  have HR := Lib.hid hr
  have H1 := Lib.hid h1
  clear hr h1
  rcases A with _ | ad
  · have h0 : n = 0 := by
      rcases Nat.eq_zero_or_pos n with h | h
      · exact h
      · obtain ⟨g, o, e, _⟩ := HR.out.2 h
        cases e
    subst h0
    have hx : xs = [] := List.eq_nil_of_length_eq_zero HR.out.1
    have hnil := fun wx => Lib.run_eql_slice_nil (P := Tryd.prog) wx 44 24 none 0 c 0 0 Tryd.underlying44
    go_enter Tryd.func37, Tryd.ntmps37
    go_wp2
    go_ret
    exact ⟨none, 0, rfl, by rw [hx]; exact World.ownsRow_nil _ _ _ _, Keeps.refl _ _, fun g e => by cases e⟩
  · have hnil := fun wx => Lib.run_eql_slice_nil (P := Tryd.prog) wx 44 24 (some ad) n c 0 0 Tryd.underlying44
    have HR1 : Hid (Rd (w.alloc (.cells #[] 24)) (some ad) n xs) := Lib.hid (HR.out.alloc _)
    have HO1 : Hid ((w.alloc (.cells #[] 24)).ownsRow 0 24 1 (.slice (some ⟨w.heap.size, 0, none⟩) 0 0) 0 []) := Lib.hid (World.ownsRow_made w #[] 0 (by omega) (by unfold maxLen; omega) rfl)
    go_enter Tryd.func37, Tryd.ntmps37
    go_wp2_with (at_builtin; refine wpList_append_rd _ rfl (.tmp 5) (.tmp 6) 44 rfl 24 .nilIface 16 Tryd.underlying44 infoE rfl _ 0 [] rfl HO1.out (some ad) n c xs rfl HR1.out H1.out (by unfold maxLen; omega) (by omega) ?_; intro A' c' w' hown hg hb)
    go_ret
    simp only [Nat.zero_add, List.nil_append] at hown hb
    refine ⟨A', c', by simp, hown, ((Keeps.refl _ _).alloc _).grown hg (fun g e => .inr (by have e' : some w.heap.size = some g := e; injection e' with e'; omega)), fun g hg' => ?_⟩
    rcases hb with hv | hv
    · have hv' : (Value.slice A' n c').ownBlock = some w.heap.size := hv
      rw [hv'] at hg'; injection hg' with e; omega
    · rw [hv] at hg'; injection hg' with e; simp at e; omega

/-- What lies in the pile lies in none of its blocks. -/
def Bq (lo p : Nat) (u v : Value) (i : Nat) : Prop := lo ≤ i ∧ i ≠ p ∧ u.ownBlock ≠ some i ∧ v.ownBlock ≠ some i
structure PileAt (lo : Nat) (w : World) (p : Nat) (u v : Value) (P : List VT) : Prop where
  blk : Blk w p 63 [u, v]
  errs : w.ownsRow 0 24 1 u P.length (P.map vv)
  deeps : w.ownsRow 0 3 1 v P.length (P.map fun t => .int .i64 t.deep)
  hp : lo ≤ p
  hu : ∀ g, u.ownBlock = some g → lo ≤ g
  hv : ∀ g, v.ownBlock = some g → lo ≤ g
  at_ : ∀ t, t ∈ P → At (Bq lo p u v) w t
section
variable {lo : Nat} {w w' : World} {p : Nat} {u v : Value} {P : List VT}
theorem PileAt.ne_u (h : PileAt lo w p u v P) : u.ownBlock ≠ some p := own_blk h.errs h.blk (by decide)
theorem PileAt.ne_v (h : PileAt lo w p u v P) : v.ownBlock ≠ some p := own_blk h.deeps h.blk (by decide)
theorem PileAt.ne_uv (h : PileAt lo w p u v P) : ∀ g, u.ownBlock = some g → v.ownBlock ≠ some g := fun g hg => own_types h.errs h.deeps (by decide) hg
theorem PileAt.read (h : PileAt lo w p u v P) {F : Nat → Prop} (hk : Keeps F w w') (hF : ∀ i, lo ≤ i → ¬ F i) : PileAt lo w' p u v P :=
  ⟨hk.blk h.blk (hF p h.hp), hk.own h.errs (fun g hg => hF g (h.hu g hg)), hk.own h.deeps (fun g hg => hF g (h.hv g hg)), h.hp, h.hu, h.hv, fun t ht => (h.at_ t ht).keep hk (fun i hi => hF i hi.1)⟩
/-- Behind the stores of both rows. -/
theorem PileAt.stored (h : PileAt lo w p u v P) {u' v' : Value} {P' : List VT} (hk : Keeps (fun i => u.ownBlock = some i ∨ v.ownBlock = some i) w w')
    (ho : w'.ownsRow 0 24 1 u' P'.length (P'.map vv)) (hd : w'.ownsRow 0 3 1 v' P'.length (P'.map fun t => .int .i64 t.deep))
    (hu' : u'.ownBlock = u.ownBlock ∨ ∃ g, u'.ownBlock = some g ∧ w.heap.size ≤ g) (hv' : v'.ownBlock = v.ownBlock ∨ ∃ g, v'.ownBlock = some g ∧ w.heap.size ≤ g)
    (hat : ∀ t, t ∈ P' → At (Bq lo p u v) w t) : PileAt lo ((w'.setCell ⟨p, 0, none⟩ u').setCell ⟨p, 1, none⟩ v') p u' v' P' ∧ Keeps (fun i => i = p ∨ u.ownBlock = some i ∨ v.ownBlock = some i) w ((w'.setCell ⟨p, 0, none⟩ u').setCell ⟨p, 1, none⟩ v') ∧
      ∀ t, At (Bq lo p u v) w t → At (Bq lo p u' v') ((w'.setCell ⟨p, 0, none⟩ u').setCell ⟨p, 1, none⟩ v') t := by
  have hb : Blk w' p 63 [u, v] := hk.blk h.blk (fun e => e.elim h.ne_u h.ne_v)
  have hset : Keeps (fun i => i = p) w' ((w'.setCell ⟨p, 0, none⟩ u').setCell ⟨p, 1, none⟩ v') := ((Keeps.refl (fun i => i = p) w').setCell (p := ⟨p, 0, none⟩) (.inl rfl) u').setCell (p := ⟨p, 1, none⟩) (.inl rfl) v'
  have hall : Keeps (fun i => i = p ∨ u.ownBlock = some i ∨ v.ownBlock = some i) w ((w'.setCell ⟨p, 0, none⟩ u').setCell ⟨p, 1, none⟩ v') := (hk.mono (fun _ _ e => .inr e)).trans hset (fun _ _ e => .inl e)
  have hlt := h.blk.lt
  have nu : u'.ownBlock ≠ some p := by
    rcases hu' with e | ⟨g, e, hg⟩
    · rw [e]; exact h.ne_u
    · rw [e]; intro e'; injection e' with e'; omega
  have nv : v'.ownBlock ≠ some p := by
    rcases hv' with e | ⟨g, e, hg⟩
    · rw [e]; exact h.ne_v
    · rw [e]; intro e'; injection e' with e'; omega
  have hlo : lo ≤ w.heap.size := by have := h.hp; omega
  have hmv : ∀ t, At (Bq lo p u v) w t → At (Bq lo p u' v') ((w'.setCell ⟨p, 0, none⟩ u').setCell ⟨p, 1, none⟩ v') t := fun t ht => by
    refine (ht.mono (C := fun i => Bq lo p u v i ∧ i < w.heap.size) (fun i hi hl => ⟨hi, hl⟩)).keep hall (fun i hi e => ?_) |>.mono (fun i hi _ => ⟨hi.1.1, hi.1.2.1, fun e => ?_, fun e => ?_⟩)
    · rcases e with e | e | e
      · exact hi.1.2.1 e
      · exact hi.1.2.2.1 e
      · exact hi.1.2.2.2 e
    · rcases hu' with e' | ⟨g, e', hg⟩
      · exact hi.1.2.2.1 (e' ▸ e)
      · rw [e'] at e; injection e with e; have := hi.2; omega
    · rcases hv' with e' | ⟨g, e', hg⟩
      · exact hi.1.2.2.2 (e' ▸ e)
      · rw [e'] at e; injection e with e; have := hi.2; omega
  refine ⟨⟨(hb.set_ 0 u').set_ 1 v', hset.own ho (fun g hg e => by have e' : g = p := e; subst e'; exact nu hg), hset.own hd (fun g hg e => by have e' : g = p := e; subst e'; exact nv hg), h.hp, fun g hg => ?_, fun g hg => ?_, fun t ht => hmv t (hat t ht)⟩, hall, hmv⟩
  · rcases hu' with e | ⟨g', e, hg'⟩
    · exact h.hu g (e ▸ hg)
    · rw [e] at hg; injection hg with hg; omega
  · rcases hv' with e | ⟨g', e, hg'⟩
    · exact h.hv g (e ▸ hg)
    · rw [e] at hg; injection hg with hg; omega
end
set_option maxHeartbeats 4000000 in
set_option maxRecDepth 100000 in
/-- One is laid on. -/
theorem on_any (lo : Nat) (w : World) (p : Nat) (u v : Value) (P : List VT) (h : PileAt lo w p u v P) (t : VT) (ht : At (Bq lo p u v) w t) (hn : P.length ≤ 1048576) :
    Calls Tryd.prog 30 #[.pointer (some ⟨p, 0, none⟩), vv t, .int .i64 t.deep] w fun e w' => e = .returned (.bool (decide ((t.deep : Int) ≤ 512))) ∧
      ∃ u' v', PileAt lo w' p u' v' (P ++ [t]) ∧ Keeps (fun i => i = p ∨ u.ownBlock = some i ∨ v.ownBlock = some i) w w' := by
  obtain ⟨A, c, rfl⟩ := own_shape h.errs
  obtain ⟨B, d, rfl⟩ := own_shape h.deeps
  obtain ⟨n, hnn⟩ : ∃ n, n = P.length := ⟨_, rfl⟩
  rw [← hnn] at h ht hn ⊢
  obtain ⟨XV, hXV⟩ : ∃ XV, XV = vv t := ⟨_, rfl⟩
  obtain ⟨dd, hdd⟩ : ∃ dd : Int, dd = (t.deep : Int) := ⟨_, rfl⟩
  obtain ⟨XS, hXS⟩ : ∃ XS, XS = P.map vv := ⟨_, rfl⟩
  obtain ⟨YS, hYS⟩ : ∃ YS, YS = P.map fun t => Value.int .i64 t.deep := ⟨_, rfl⟩
  have HU : Hid (w.ownsRow 0 24 1 (.slice A n c) n XS) := Lib.hid (by rw [hXS]; have := h.errs; rwa [← hnn] at this)
  have HV : Hid (w.ownsRow 0 3 1 (.slice B n d) n YS) := Lib.hid (by rw [hYS]; have := h.deeps; rwa [← hnn] at this)
  have HX1 : Hid (XV.oneCell' = true) := Lib.hid (by rw [hXV]; exact vv_one t)
  have hXC : XV.cells = #[XV] := by rw [hXV]; cases t <;> rfl
  unfold Value.cells at hXC
  have HNE := Lib.hid h.ne_uv
  have HB := Lib.hid h.blk
  have HNP : Hid (¬ ((Value.slice A n c).ownBlock = some p ∨ (Value.slice B n d).ownBlock = some p)) := Lib.hid (fun e => e.elim h.ne_u h.ne_v)
  have HPU : Hid (∀ (x15 : World) (A8 : Option Addr) (c8 : Nat) (B15 : Option Addr) (d15 : Nat), Keeps (fun i => (Value.slice A n c).ownBlock = some i ∨ (Value.slice B n d).ownBlock = some i) w x15 → x15.ownsRow 0 24 1 (.slice A8 (n + 1) c8) (n + 1) (XS ++ [XV]) → x15.ownsRow 0 3 1 (.slice B15 (n + 1) d15) (n + 1) (YS ++ [.int .i64 dd]) →
      ((Value.slice A8 (n + 1) c8).ownBlock = (Value.slice A n c).ownBlock ∨ ∃ g, (Value.slice A8 (n + 1) c8).ownBlock = some g ∧ w.heap.size ≤ g) → ((Value.slice B15 (n + 1) d15).ownBlock = (Value.slice B n d).ownBlock ∨ ∃ g, (Value.slice B15 (n + 1) d15).ownBlock = some g ∧ w.heap.size ≤ g) →
      x15.cell? ⟨p, 0, none⟩ = some (.slice A n c) ∧ x15.frozen? ⟨p, 0, none⟩ = false ∧ x15.cell? ⟨p, 1, none⟩ = some (.slice B n d) ∧ x15.frozen? ⟨p, 1, none⟩ = false ∧
        ∃ u' v', PileAt lo ((x15.setCell ⟨p, 0, none⟩ (.slice A8 (n + 1) c8)).setCell ⟨p, 1, none⟩ (.slice B15 (n + 1) d15)) p u' v' (P ++ [t]) ∧ Keeps (fun i => i = p ∨ (Value.slice A n c).ownBlock = some i ∨ (Value.slice B n d).ownBlock = some i) w ((x15.setCell ⟨p, 0, none⟩ (.slice A8 (n + 1) c8)).setCell ⟨p, 1, none⟩ (.slice B15 (n + 1) d15))) := Lib.hid fun x15 A8 c8 B15 d15 hk ho hd h8 h15 => by
    have hb := hk.blk HB.out HNP.out
    have hl : (P ++ [t]).length = n + 1 := by rw [List.length_append, ← hnn]; rfl
    obtain ⟨r1, r2, _⟩ := h.stored (u' := .slice A8 (n + 1) c8) (v' := .slice B15 (n + 1) d15) (P' := P ++ [t]) hk (by rw [hl, List.map_append, ← hXS, List.map_cons, ← hXV]; exact ho) (by rw [hl, List.map_append, ← hYS, List.map_cons, ← hdd]; exact hd) h8 h15 (fun x hx => (List.mem_append.1 hx).elim (h.at_ x) (fun hx => by rw [List.mem_singleton.1 hx]; exact ht))
    exact ⟨hb.cell 0, hb.frozen 0, hb.cell 1, hb.frozen 1, _, _, r1, r2⟩
  rw [← hXV, ← hdd]
  clear h ht hXV hdd hXS hYS hnn
  go_enter Tryd.func30, Tryd.ntmps30
  go_upto_region 1 with fail
  refine wp_region_tail (S := Keeps (fun i => (Value.slice A n c).ownBlock = some i ∨ (Value.slice B n d).ownBlock = some i) w) 16 (by kernel_rfl) (Keeps.refl _ _).drew (fun hHeld => ?_)
  refine wpAnyT_pure (i := 0) (oi := ⟨some 7, _, _, _, _, _⟩) (v := ?_) rfl (by kernel_rfl) (by kernel_rfl) (by kernel_rfl) (fun _ _ _ h => h) (Or.inl ⟨by rfl, ?_⟩) ?_
  rotate_left
  · intro w' hSw
    go_simp
    first | done | rfl
  try simp only [Act.put, List.setIfInBounds_toArray, List.set_cons_zero, List.set_cons_succ]
  refine wpAnyT_pure (i := 1) (oi := ⟨some 8, _, _, _, _, _⟩) (v := ?_) rfl (by kernel_rfl) (by kernel_rfl) (by kernel_rfl) (fun _ _ _ h => h) (Or.inl ⟨by rfl, ?_⟩) ?_
  rotate_left
  · intro w' hSw
    go_simp
    first | done | rfl
  try simp only [Act.put, List.setIfInBounds_toArray, List.set_cons_zero, List.set_cons_succ]
  refine wpAnyT_pure (i := 2) (oi := ⟨some 9, _, _, _, _, _⟩) (v := ?_) rfl (by kernel_rfl) (by kernel_rfl) (by kernel_rfl) (fun _ _ _ h => h) (Or.inl ⟨by rfl, ?_⟩) ?_
  rotate_left
  · intro w' hSw
    go_simp
    first | done | rfl
  try simp only [Act.put, List.setIfInBounds_toArray, List.set_cons_zero, List.set_cons_succ]
  refine wpAnyT_pure (i := 3) (oi := ⟨some 10, _, _, _, _, _⟩) (v := ?_) rfl (by kernel_rfl) (by kernel_rfl) (by kernel_rfl) (fun _ _ _ h => h) (Or.inl ⟨by rfl, ?_⟩) ?_
  rotate_left
  · intro w' hSw
    go_simp
    first | done | rfl
  try simp only [Act.put, List.setIfInBounds_toArray, List.set_cons_zero, List.set_cons_succ]
  refine wpAnyT_pure (i := 4) (oi := ⟨some 11, _, _, _, _, _⟩) (v := ?_) rfl (by kernel_rfl) (by kernel_rfl) (by kernel_rfl) (fun _ _ _ h => h) (Or.inl ⟨by rfl, ?_⟩) ?_
  rotate_left
  · intro w' hSw
    go_simp
    first | done | rfl
  try simp only [Act.put, List.setIfInBounds_toArray, List.set_cons_zero, List.set_cons_succ]
  refine wpAnyT_take [5] (i := 5) (oi := ⟨some 12, _, _, _, _, _⟩) (v := ?_) rfl (by kernel_rfl) (by kernel_rfl) (by kernel_rfl) (by kernel_rfl) (by kernel_rfl) (fun _ _ _ h => h) (Or.inl ⟨by rfl, ?_⟩) hHeld ?_
  rotate_left
  · intro w' hSw
    have cv := ((HB.out.keepF hSw HNP.out).cell 0)
    go_simp
    first | done | rfl
  try simp only [Act.put, List.setIfInBounds_toArray, List.set_cons_zero, List.set_cons_succ]
  refine wpAnyT_pure (i := 6) (oi := ⟨some 13, _, _, _, _, _⟩) (v := ?_) rfl (by kernel_rfl) (by kernel_rfl) (by kernel_rfl) (fun _ _ _ h => h) (Or.inl ⟨by rfl, ?_⟩) ?_
  rotate_left
  · intro w' hSw
    go_simp
    first | done | rfl
  try simp only [Act.put, List.setIfInBounds_toArray, List.set_cons_zero, List.set_cons_succ]
  refine wpAnyT_pure (i := 9) (oi := ⟨some 16, _, _, _, _, _⟩) (v := ?_) rfl (by kernel_rfl) (by kernel_rfl) (by kernel_rfl) (fun _ _ _ h => h) (Or.inl ⟨by rfl, ?_⟩) ?_
  rotate_left
  · intro w' hSw
    go_simp
    first | done | rfl
  try simp only [Act.put, List.setIfInBounds_toArray, List.set_cons_zero, List.set_cons_succ]
  refine wpAnyT_pure (i := 10) (oi := ⟨some 17, _, _, _, _, _⟩) (v := ?_) rfl (by kernel_rfl) (by kernel_rfl) (by kernel_rfl) (fun _ _ _ h => h) (Or.inl ⟨by rfl, ?_⟩) ?_
  rotate_left
  · intro w' hSw
    go_simp
    first | done | rfl
  try simp only [Act.put, List.setIfInBounds_toArray, List.set_cons_zero, List.set_cons_succ]
  refine wpAnyT_pure (i := 11) (oi := ⟨some 18, _, _, _, _, _⟩) (v := ?_) rfl (by kernel_rfl) (by kernel_rfl) (by kernel_rfl) (fun _ _ _ h => h) (Or.inl ⟨by rfl, ?_⟩) ?_
  rotate_left
  · intro w' hSw
    go_simp
    first | done | rfl
  try simp only [Act.put, List.setIfInBounds_toArray, List.set_cons_zero, List.set_cons_succ]
  refine wpAnyT_take [12] (i := 12) (oi := ⟨some 19, _, _, _, _, _⟩) (v := ?_) rfl (by kernel_rfl) (by kernel_rfl) (by kernel_rfl) (by kernel_rfl) (by kernel_rfl) (fun _ _ _ h => h) (Or.inl ⟨by rfl, ?_⟩) hHeld ?_
  rotate_left
  · intro w' hSw
    have cv := ((HB.out.keepF hSw HNP.out).cell 1)
    go_simp
    first | done | rfl
  try simp only [Act.put, List.setIfInBounds_toArray, List.set_cons_zero, List.set_cons_succ]
  refine wpAnyT_pure (i := 13) (oi := ⟨some 20, _, _, _, _, _⟩) (v := ?_) rfl (by kernel_rfl) (by kernel_rfl) (by kernel_rfl) (fun _ _ _ h => h) (Or.inl ⟨by rfl, ?_⟩) ?_
  rotate_left
  · intro w' hSw
    go_simp
    first | done | rfl
  try simp only [Act.put, List.setIfInBounds_toArray, List.set_cons_zero, List.set_cons_succ]
  refine wpAnyT_two (i := 7) (j := 14) (oi := ⟨some 14, _, _, _, _, _⟩) (oj := ⟨some 21, _, _, _, _, _⟩) (by kernel_rfl) rfl rfl (fun K hK => ?_) (fun K hK => ?_)
  · go_simp
    refine gen_KA (fun W => Keeps (fun _ => False) w W ∧ Blk W w.heap.size 24 [XV]) ⟨((Keeps.refl (fun _ => False) w).alloc _).drew, Blk.new w 24 [XV]⟩ ?_
    rintro x7 ⟨hk7, hb7⟩
    have hF7 := hk7
    have hS7 : Keeps (fun i => (Value.slice A n c).ownBlock = some i ∨ (Value.slice B n d).ownBlock = some i) w x7 := hF7.mono (fun _ _ h => h.elim)
    refine hK.out _ _ hS7 (fun hHeld => ?_)
    clear hK K
    try simp only [Act.put, List.setIfInBounds_toArray, List.set_cons_zero, List.set_cons_succ]
    refine wpAnyT_two (i := 8) (j := 14) (oi := ⟨some 15, _, _, _, _, _⟩) (oj := ⟨some 21, _, _, _, _, _⟩) (by kernel_rfl) rfl rfl (fun K hK => ?_) (fun K hK => ?_)
    · refine step_append_own rfl (.tmp 12) (.tmp 14) 44 rfl 24 .nilIface 1 16 Tryd.underlying44 infoE rfl (by decide) A n c XS rfl (hF7.own HU.out (fun _ _ h => h)) ⟨w.heap.size, 0, none⟩ 1 1 [XV] rfl rfl (fun j y hy => by rw [add_at, Nat.zero_add, hb7.cell]; exact hy) (by intro y hy; rw [List.mem_singleton.1 hy]; exact HX1.out) (by simp only [maxLen]; omega) (by omega) ?_
      intro A8 c8 x8 hown8 hg8 hbk8
      have hk8 := Keeps.of_grown hg8
      have hU8 : Keeps (fun i => (Value.slice A n c).ownBlock = some i) w x8 := (hF7.mono (fun _ _ h => h.elim)).trans hk8 (fun _ _ h => h)
      have hS8 : Keeps (fun i => (Value.slice A n c).ownBlock = some i ∨ (Value.slice B n d).ownBlock = some i) w x8 := hU8.mono (fun _ _ h => .inl h)
      have hbl8 : (Value.slice A8 (n + 1) c8).ownBlock = (Value.slice A n c).ownBlock ∨ ∃ g, (Value.slice A8 (n + 1) c8).ownBlock = some g ∧ w.heap.size ≤ g := hbk8.imp id (fun h => ⟨_, h, hF7.size⟩)
      refine hK.out _ _ hS8 (fun hHeld => ?_)
      clear hK K
      try simp only [Act.put, List.setIfInBounds_toArray, List.set_cons_zero, List.set_cons_succ]
      refine wpAnyT_step (i := 14) (o := ⟨some 21, _, _, _, _, _⟩) (by kernel_rfl) rfl (fun K hK => ?_)
      go_simp
      refine gen_KA (fun W => Keeps (fun _ => False) x8 W ∧ Blk W x8.heap.size 3 [.int .i64 dd]) ⟨((Keeps.refl (fun _ => False) x8).alloc _), Blk.new x8 3 [.int .i64 dd]⟩ ?_
      rintro x14 ⟨hk14, hb14⟩
      have hU14 := hU8.trans hk14 (fun _ _ h => h.elim)
      have hS14 : Keeps (fun i => (Value.slice A n c).ownBlock = some i ∨ (Value.slice B n d).ownBlock = some i) w x14 := hU14.mono (fun _ _ h => .inl h)
      refine hK.out _ _ hS14 (fun hHeld => ?_)
      clear hK K
      try simp only [Act.put, List.setIfInBounds_toArray, List.set_cons_zero, List.set_cons_succ]
      refine wpAnyT_step (i := 15) (o := ⟨some 22, _, _, _, _, _⟩) (by kernel_rfl) rfl (fun K hK => ?_)
      refine step_append_own rfl (.tmp 19) (.tmp 21) 53 rfl 3 (.int .i64 0) 1 8 Tryd.underlying53 infoI rfl (by decide) B n d YS rfl (hU14.own HV.out (fun g hg e => HNE.out g e hg)) ⟨x8.heap.size, 0, none⟩ 1 1 [.int .i64 dd] rfl rfl (fun j y hy => by rw [add_at, Nat.zero_add, hb14.cell]; exact hy) (by intro y hy; rw [List.mem_singleton.1 hy]; rfl) (by simp only [maxLen]; omega) (by omega) ?_
      intro B15 d15 x15 hown15 hg15 hbk15
      have hk15 := Keeps.of_grown hg15
      have hS15 : Keeps (fun i => (Value.slice A n c).ownBlock = some i ∨ (Value.slice B n d).ownBlock = some i) w x15 := (hU14.mono (fun _ _ h => .inl h)).trans hk15 (fun _ _ h => .inr h)
      have hbl15 : (Value.slice B15 (n + 1) d15).ownBlock = (Value.slice B n d).ownBlock ∨ ∃ g, (Value.slice B15 (n + 1) d15).ownBlock = some g ∧ w.heap.size ≤ g := hbk15.imp id (fun h => ⟨_, h, hU14.size⟩)
      have hown8' := hk15.own (hk14.own hown8 (fun _ _ h => h)) (fun g hg e => by
        rcases hbl8 with hb | ⟨g8, hb, hg8'⟩
        · exact HNE.out g (hb ▸ hg) e
        · rw [hb] at hg; injection hg with hg; subst hg; have := (HV.out.lt _ e).2; omega)
      have HEND := Lib.hid (HPU.out x15 A8 c8 B15 d15 hS15 hown8' hown15 hbl8 hbl15)
      have hst := HEND.out.1
      have hst2 := HEND.out.2.1
      have hst3 := HEND.out.2.2.1
      have hst4 := HEND.out.2.2.2.1
      refine hK.out _ _ hS15 (fun hHeld => ?_)
      clear hK K
      try simp only [Act.put, List.setIfInBounds_toArray, List.set_cons_zero, List.set_cons_succ]
      refine wpAnyT_tail (i := 16) (o := ⟨some 23, _, _, _, _, _⟩) (by kernel_rfl) (by kernel_rfl) rfl (fun K hK => ?_)
      go_simp
      refine hK.out _ _ ?_
      clear hK K
      try simp only [Act.put, List.setIfInBounds_toArray, List.set_cons_zero, List.set_cons_succ]
      refine wpAnyT_tail (i := 17) (o := ⟨some 24, _, _, _, _, _⟩) (by kernel_rfl) (by kernel_rfl) rfl (fun K hK => ?_)
      go_simp
      refine hK.out _ _ ?_
      clear hK K
      try simp only [Act.put, List.setIfInBounds_toArray, List.set_cons_zero, List.set_cons_succ]
      refine wpAnyT_tail (i := 18) (o := ⟨none, _, _, _, _, _⟩) (by kernel_rfl) (by kernel_rfl) rfl (fun K hK => ?_)
      go_simp
      refine hK.out _ _ ?_
      clear hK K
      try simp only [Act.put, List.setIfInBounds_toArray, List.set_cons_zero, List.set_cons_succ]
      refine wpAnyT_tail (i := 19) (o := ⟨some 25, _, _, _, _, _⟩) (by kernel_rfl) (by kernel_rfl) rfl (fun K hK => ?_)
      go_simp
      refine hK.out _ _ ?_
      clear hK K
      try simp only [Act.put, List.setIfInBounds_toArray, List.set_cons_zero, List.set_cons_succ]
      refine wpAnyT_tail (i := 20) (o := ⟨some 26, _, _, _, _, _⟩) (by kernel_rfl) (by kernel_rfl) rfl (fun K hK => ?_)
      go_simp
      refine hK.out _ _ ?_
      clear hK K
      try simp only [Act.put, List.setIfInBounds_toArray, List.set_cons_zero, List.set_cons_succ]
      refine wpAnyT_tail (i := 21) (o := ⟨none, _, _, _, _, _⟩) (by kernel_rfl) (by kernel_rfl) rfl (fun K hK => ?_)
      go_simp
      refine hK.out _ _ ?_
      clear hK K
      try simp only [Act.put, List.setIfInBounds_toArray, List.set_cons_zero, List.set_cons_succ]
      refine wpAnyT_done (by kernel_rfl) ?_
      go_wp2
      go_ret
      exact ⟨rfl, HEND.out.2.2.2.2⟩
    · go_simp
      refine gen_KA (fun W => Keeps (fun _ => False) x7 W ∧ Blk W x7.heap.size 3 [.int .i64 dd]) ⟨((Keeps.refl (fun _ => False) x7).alloc _), Blk.new x7 3 [.int .i64 dd]⟩ ?_
      rintro x14 ⟨hk14, hb14⟩
      have hF14 := hF7.trans hk14 (fun _ _ h => h)
      have hb7 := hk14.blk hb7 (fun h => h)
      have hS14 : Keeps (fun i => (Value.slice A n c).ownBlock = some i ∨ (Value.slice B n d).ownBlock = some i) w x14 := hF14.mono (fun _ _ h => h.elim)
      refine hK.out _ _ hS14 (fun hHeld => ?_)
      clear hK K
      try simp only [Act.put, List.setIfInBounds_toArray, List.set_cons_zero, List.set_cons_succ]
      refine wpAnyT_step (i := 8) (o := ⟨some 15, _, _, _, _, _⟩) (by kernel_rfl) rfl (fun K hK => ?_)
      refine step_append_own rfl (.tmp 12) (.tmp 14) 44 rfl 24 .nilIface 1 16 Tryd.underlying44 infoE rfl (by decide) A n c XS rfl (hF14.own HU.out (fun _ _ h => h)) ⟨w.heap.size, 0, none⟩ 1 1 [XV] rfl rfl (fun j y hy => by rw [add_at, Nat.zero_add, hb7.cell]; exact hy) (by intro y hy; rw [List.mem_singleton.1 hy]; exact HX1.out) (by simp only [maxLen]; omega) (by omega) ?_
      intro A8 c8 x8 hown8 hg8 hbk8
      have hk8 := Keeps.of_grown hg8
      have hU8 : Keeps (fun i => (Value.slice A n c).ownBlock = some i) w x8 := (hF14.mono (fun _ _ h => h.elim)).trans hk8 (fun _ _ h => h)
      have hS8 : Keeps (fun i => (Value.slice A n c).ownBlock = some i ∨ (Value.slice B n d).ownBlock = some i) w x8 := hU8.mono (fun _ _ h => .inl h)
      have hbl8 : (Value.slice A8 (n + 1) c8).ownBlock = (Value.slice A n c).ownBlock ∨ ∃ g, (Value.slice A8 (n + 1) c8).ownBlock = some g ∧ w.heap.size ≤ g := hbk8.imp id (fun h => ⟨_, h, hF14.size⟩)
      have hb14 := hk8.blk hb14 (fun e => by have h1 := (HU.out.lt _ e).2; have h2 := hF7.size; omega)
      refine hK.out _ _ hS8 (fun hHeld => ?_)
      clear hK K
      try simp only [Act.put, List.setIfInBounds_toArray, List.set_cons_zero, List.set_cons_succ]
      refine wpAnyT_step (i := 15) (o := ⟨some 22, _, _, _, _, _⟩) (by kernel_rfl) rfl (fun K hK => ?_)
      refine step_append_own rfl (.tmp 19) (.tmp 21) 53 rfl 3 (.int .i64 0) 1 8 Tryd.underlying53 infoI rfl (by decide) B n d YS rfl (hU8.own HV.out (fun g hg e => HNE.out g e hg)) ⟨x7.heap.size, 0, none⟩ 1 1 [.int .i64 dd] rfl rfl (fun j y hy => by rw [add_at, Nat.zero_add, hb14.cell]; exact hy) (by intro y hy; rw [List.mem_singleton.1 hy]; rfl) (by simp only [maxLen]; omega) (by omega) ?_
      intro B15 d15 x15 hown15 hg15 hbk15
      have hk15 := Keeps.of_grown hg15
      have hS15 : Keeps (fun i => (Value.slice A n c).ownBlock = some i ∨ (Value.slice B n d).ownBlock = some i) w x15 := (hU8.mono (fun _ _ h => .inl h)).trans hk15 (fun _ _ h => .inr h)
      have hbl15 : (Value.slice B15 (n + 1) d15).ownBlock = (Value.slice B n d).ownBlock ∨ ∃ g, (Value.slice B15 (n + 1) d15).ownBlock = some g ∧ w.heap.size ≤ g := hbk15.imp id (fun h => ⟨_, h, hU8.size⟩)
      have hown8' := hk15.own hown8 (fun g hg e => by
        rcases hbl8 with hb | ⟨g8, hb, hg8'⟩
        · exact HNE.out g (hb ▸ hg) e
        · rw [hb] at hg; injection hg with hg; subst hg; have := (HV.out.lt _ e).2; omega)
      have HEND := Lib.hid (HPU.out x15 A8 c8 B15 d15 hS15 hown8' hown15 hbl8 hbl15)
      have hst := HEND.out.1
      have hst2 := HEND.out.2.1
      have hst3 := HEND.out.2.2.1
      have hst4 := HEND.out.2.2.2.1
      refine hK.out _ _ hS15 (fun hHeld => ?_)
      clear hK K
      try simp only [Act.put, List.setIfInBounds_toArray, List.set_cons_zero, List.set_cons_succ]
      refine wpAnyT_tail (i := 16) (o := ⟨some 23, _, _, _, _, _⟩) (by kernel_rfl) (by kernel_rfl) rfl (fun K hK => ?_)
      go_simp
      refine hK.out _ _ ?_
      clear hK K
      try simp only [Act.put, List.setIfInBounds_toArray, List.set_cons_zero, List.set_cons_succ]
      refine wpAnyT_tail (i := 17) (o := ⟨some 24, _, _, _, _, _⟩) (by kernel_rfl) (by kernel_rfl) rfl (fun K hK => ?_)
      go_simp
      refine hK.out _ _ ?_
      clear hK K
      try simp only [Act.put, List.setIfInBounds_toArray, List.set_cons_zero, List.set_cons_succ]
      refine wpAnyT_tail (i := 18) (o := ⟨none, _, _, _, _, _⟩) (by kernel_rfl) (by kernel_rfl) rfl (fun K hK => ?_)
      go_simp
      refine hK.out _ _ ?_
      clear hK K
      try simp only [Act.put, List.setIfInBounds_toArray, List.set_cons_zero, List.set_cons_succ]
      refine wpAnyT_tail (i := 19) (o := ⟨some 25, _, _, _, _, _⟩) (by kernel_rfl) (by kernel_rfl) rfl (fun K hK => ?_)
      go_simp
      refine hK.out _ _ ?_
      clear hK K
      try simp only [Act.put, List.setIfInBounds_toArray, List.set_cons_zero, List.set_cons_succ]
      refine wpAnyT_tail (i := 20) (o := ⟨some 26, _, _, _, _, _⟩) (by kernel_rfl) (by kernel_rfl) rfl (fun K hK => ?_)
      go_simp
      refine hK.out _ _ ?_
      clear hK K
      try simp only [Act.put, List.setIfInBounds_toArray, List.set_cons_zero, List.set_cons_succ]
      refine wpAnyT_tail (i := 21) (o := ⟨none, _, _, _, _, _⟩) (by kernel_rfl) (by kernel_rfl) rfl (fun K hK => ?_)
      go_simp
      refine hK.out _ _ ?_
      clear hK K
      try simp only [Act.put, List.setIfInBounds_toArray, List.set_cons_zero, List.set_cons_succ]
      refine wpAnyT_done (by kernel_rfl) ?_
      go_wp2
      go_ret
      exact ⟨rfl, HEND.out.2.2.2.2⟩
  · go_simp
    refine gen_KA (fun W => Keeps (fun _ => False) w W ∧ Blk W w.heap.size 3 [.int .i64 dd]) ⟨((Keeps.refl (fun _ => False) w).alloc _).drew, Blk.new w 3 [.int .i64 dd]⟩ ?_
    rintro x14 ⟨hk14, hb14⟩
    have hF14 := hk14
    have hS14 : Keeps (fun i => (Value.slice A n c).ownBlock = some i ∨ (Value.slice B n d).ownBlock = some i) w x14 := hF14.mono (fun _ _ h => h.elim)
    refine hK.out _ _ hS14 (fun hHeld => ?_)
    clear hK K
    try simp only [Act.put, List.setIfInBounds_toArray, List.set_cons_zero, List.set_cons_succ]
    refine wpAnyT_step (i := 7) (o := ⟨some 14, _, _, _, _, _⟩) (by kernel_rfl) rfl (fun K hK => ?_)
    go_simp
    refine gen_KA (fun W => Keeps (fun _ => False) x14 W ∧ Blk W x14.heap.size 24 [XV]) ⟨((Keeps.refl (fun _ => False) x14).alloc _), Blk.new x14 24 [XV]⟩ ?_
    rintro x7 ⟨hk7, hb7⟩
    have hF7 := hF14.trans hk7 (fun _ _ h => h)
    have hb14 := hk7.blk hb14 (fun h => h)
    have hS7 : Keeps (fun i => (Value.slice A n c).ownBlock = some i ∨ (Value.slice B n d).ownBlock = some i) w x7 := hF7.mono (fun _ _ h => h.elim)
    refine hK.out _ _ hS7 (fun hHeld => ?_)
    clear hK K
    try simp only [Act.put, List.setIfInBounds_toArray, List.set_cons_zero, List.set_cons_succ]
    refine wpAnyT_step (i := 8) (o := ⟨some 15, _, _, _, _, _⟩) (by kernel_rfl) rfl (fun K hK => ?_)
    refine step_append_own rfl (.tmp 12) (.tmp 14) 44 rfl 24 .nilIface 1 16 Tryd.underlying44 infoE rfl (by decide) A n c XS rfl (hF7.own HU.out (fun _ _ h => h)) ⟨x14.heap.size, 0, none⟩ 1 1 [XV] rfl rfl (fun j y hy => by rw [add_at, Nat.zero_add, hb7.cell]; exact hy) (by intro y hy; rw [List.mem_singleton.1 hy]; exact HX1.out) (by simp only [maxLen]; omega) (by omega) ?_
    intro A8 c8 x8 hown8 hg8 hbk8
    have hk8 := Keeps.of_grown hg8
    have hU8 : Keeps (fun i => (Value.slice A n c).ownBlock = some i) w x8 := (hF7.mono (fun _ _ h => h.elim)).trans hk8 (fun _ _ h => h)
    have hS8 : Keeps (fun i => (Value.slice A n c).ownBlock = some i ∨ (Value.slice B n d).ownBlock = some i) w x8 := hU8.mono (fun _ _ h => .inl h)
    have hbl8 : (Value.slice A8 (n + 1) c8).ownBlock = (Value.slice A n c).ownBlock ∨ ∃ g, (Value.slice A8 (n + 1) c8).ownBlock = some g ∧ w.heap.size ≤ g := hbk8.imp id (fun h => ⟨_, h, hF7.size⟩)
    have hb14 := hk8.blk hb14 (fun e => by have h1 := (HU.out.lt _ e).2; omega)
    refine hK.out _ _ hS8 (fun hHeld => ?_)
    clear hK K
    try simp only [Act.put, List.setIfInBounds_toArray, List.set_cons_zero, List.set_cons_succ]
    refine wpAnyT_step (i := 15) (o := ⟨some 22, _, _, _, _, _⟩) (by kernel_rfl) rfl (fun K hK => ?_)
    refine step_append_own rfl (.tmp 19) (.tmp 21) 53 rfl 3 (.int .i64 0) 1 8 Tryd.underlying53 infoI rfl (by decide) B n d YS rfl (hU8.own HV.out (fun g hg e => HNE.out g e hg)) ⟨w.heap.size, 0, none⟩ 1 1 [.int .i64 dd] rfl rfl (fun j y hy => by rw [add_at, Nat.zero_add, hb14.cell]; exact hy) (by intro y hy; rw [List.mem_singleton.1 hy]; rfl) (by simp only [maxLen]; omega) (by omega) ?_
    intro B15 d15 x15 hown15 hg15 hbk15
    have hk15 := Keeps.of_grown hg15
    have hS15 : Keeps (fun i => (Value.slice A n c).ownBlock = some i ∨ (Value.slice B n d).ownBlock = some i) w x15 := (hU8.mono (fun _ _ h => .inl h)).trans hk15 (fun _ _ h => .inr h)
    have hbl15 : (Value.slice B15 (n + 1) d15).ownBlock = (Value.slice B n d).ownBlock ∨ ∃ g, (Value.slice B15 (n + 1) d15).ownBlock = some g ∧ w.heap.size ≤ g := hbk15.imp id (fun h => ⟨_, h, hU8.size⟩)
    have hown8' := hk15.own hown8 (fun g hg e => by
      rcases hbl8 with hb | ⟨g8, hb, hg8'⟩
      · exact HNE.out g (hb ▸ hg) e
      · rw [hb] at hg; injection hg with hg; subst hg; have := (HV.out.lt _ e).2; omega)
    have HEND := Lib.hid (HPU.out x15 A8 c8 B15 d15 hS15 hown8' hown15 hbl8 hbl15)
    have hst := HEND.out.1
    have hst2 := HEND.out.2.1
    have hst3 := HEND.out.2.2.1
    have hst4 := HEND.out.2.2.2.1
    refine hK.out _ _ hS15 (fun hHeld => ?_)
    clear hK K
    try simp only [Act.put, List.setIfInBounds_toArray, List.set_cons_zero, List.set_cons_succ]
    refine wpAnyT_tail (i := 16) (o := ⟨some 23, _, _, _, _, _⟩) (by kernel_rfl) (by kernel_rfl) rfl (fun K hK => ?_)
    go_simp
    refine hK.out _ _ ?_
    clear hK K
    try simp only [Act.put, List.setIfInBounds_toArray, List.set_cons_zero, List.set_cons_succ]
    refine wpAnyT_tail (i := 17) (o := ⟨some 24, _, _, _, _, _⟩) (by kernel_rfl) (by kernel_rfl) rfl (fun K hK => ?_)
    go_simp
    refine hK.out _ _ ?_
    clear hK K
    try simp only [Act.put, List.setIfInBounds_toArray, List.set_cons_zero, List.set_cons_succ]
    refine wpAnyT_tail (i := 18) (o := ⟨none, _, _, _, _, _⟩) (by kernel_rfl) (by kernel_rfl) rfl (fun K hK => ?_)
    go_simp
    refine hK.out _ _ ?_
    clear hK K
    try simp only [Act.put, List.setIfInBounds_toArray, List.set_cons_zero, List.set_cons_succ]
    refine wpAnyT_tail (i := 19) (o := ⟨some 25, _, _, _, _, _⟩) (by kernel_rfl) (by kernel_rfl) rfl (fun K hK => ?_)
    go_simp
    refine hK.out _ _ ?_
    clear hK K
    try simp only [Act.put, List.setIfInBounds_toArray, List.set_cons_zero, List.set_cons_succ]
    refine wpAnyT_tail (i := 20) (o := ⟨some 26, _, _, _, _, _⟩) (by kernel_rfl) (by kernel_rfl) rfl (fun K hK => ?_)
    go_simp
    refine hK.out _ _ ?_
    clear hK K
    try simp only [Act.put, List.setIfInBounds_toArray, List.set_cons_zero, List.set_cons_succ]
    refine wpAnyT_tail (i := 21) (o := ⟨none, _, _, _, _, _⟩) (by kernel_rfl) (by kernel_rfl) rfl (fun K hK => ?_)
    go_simp
    refine hK.out _ _ ?_
    clear hK K
    try simp only [Act.put, List.setIfInBounds_toArray, List.set_cons_zero, List.set_cons_succ]
    refine wpAnyT_done (by kernel_rfl) ?_
    go_wp2
    go_ret
    exact ⟨rfl, HEND.out.2.2.2.2⟩

theorem own_headF {w : World} {e : TypeId} {A : Option Addr} {n c : Nat} {xs : List Value} (h : w.ownsRow 0 e 1 (.slice A n c) n xs) (hn : 0 < n) : ∃ g, A = some ⟨g, 0, none⟩ := by
  obtain ⟨g, cap, e, _⟩ := h.form hn
  injection e with e
  exact ⟨g, e⟩
theorem own_cut0 {w : World} {e : TypeId} {A : Option Addr} {n c : Nat} {xs : List Value} (h : w.ownsRow 0 e 1 (.slice A n c) n xs) : cutA A c 0 = A := by
  unfold cutA
  rcases h.2 with ⟨hv, _⟩ | ⟨g, cap, cur, hv, _⟩
  · injection hv with h1; subst h1; simp
  · injection hv with h1; subst h1; simp [Addr.add]
theorem maxL_app (l : List Nat) (x : Nat) : maxL (l ++ [x]) = max (maxL l) x := by
  induction l with
  | nil => simp [maxL]
  | cons y l ih => simp only [List.cons_append, maxL, ih]; omega
theorem own_blockEq (A : Option Addr) (n c k d : Nat) : (Value.slice A n c).ownBlock = (Value.slice A k d).ownBlock := by cases A <;> rfl
set_option maxHeartbeats 4000000 in
set_option maxRecDepth 100000 in
/-- The last m are taken off. -/
theorem off_any (lo : Nat) (w : World) (p : Nat) (u v : Value) (P : List VT) (h : PileAt lo w p u v P) (n k m : Nat) (hnn : n = P.length) (hk : k + m = n) (hn : n ≤ 1048576) :
    Calls Tryd.prog 31 #[.pointer (some ⟨p, 0, none⟩), .int .i64 m] w fun e w' => ∃ A' c' u' v', e = .returned (.tuple #[.slice A' m c', .int .i64 ((maxL ((P.drop k).map fun t => t.deep) : Nat) : Int)]) ∧ PileAt lo w' p u' v' (P.take k) ∧
      w'.ownsRow 0 24 1 (.slice A' m c') m ((P.drop k).map vv) ∧ (∀ g, (Value.slice A' m c').ownBlock = some g → Bq lo p u' v' g ∧ w.heap.size ≤ g) ∧ (∀ t, t ∈ P.drop k → At (Bq lo p u' v') w' t) ∧ Keeps (fun i => i = p) w w' := by
  obtain ⟨A, c, rfl⟩ := own_shape h.errs
  obtain ⟨B, d, rfl⟩ := own_shape h.deeps
  have hlt := h.blk.lt
  have he := h.errs
  have hd := h.deeps
  rw [← hnn] at h he hd
  obtain ⟨XS, hXS⟩ : ∃ XS, XS = P.map vv := ⟨_, rfl⟩
  obtain ⟨YS, hYS⟩ : ∃ YS, YS = P.map fun t => Value.int .i64 t.deep := ⟨_, rfl⟩
  obtain ⟨DS, hDS⟩ : ∃ DS, DS = (P.drop k).map fun t => t.deep := ⟨_, rfl⟩
  have hdl : DS.length = m := by rw [hDS, List.length_map, List.length_drop]; omega
  rw [← hXS] at he
  rw [← hYS] at hd
  have hcap : n ≤ c := by
    rcases Nat.eq_zero_or_pos n with h0 | h0
    · omega
    · obtain ⟨g, cap, e1, _, _⟩ := he.form h0
      injection e1 with e1 _ e3
      subst e1
      exact own_cap he
  have hcapd : n ≤ d := by
    rcases Nat.eq_zero_or_pos n with h0 | h0
    · omega
    · obtain ⟨g, cap, e1, _, _⟩ := hd.form h0
      injection e1 with e1 _ e3
      subst e1
      exact own_cap hd
  obtain ⟨CA, hCA⟩ : ∃ CA, CA = cutA A c k := ⟨_, rfl⟩
  obtain ⟨CB, hCB⟩ : ∃ CB, CB = cutA B d k := ⟨_, rfl⟩
  have HB := Lib.hid h.blk
  have HLA : ∀ W, (Instr.sliceAt 44 (.slice A n c) (some (.int .i64 (k : Int))) none none).run Tryd.prog W = .ok (.slice CA m (c - k)) W := fun W => by
    have := cut_l (P := Tryd.prog) Tryd.underlying44 (by kernel_rfl) A n c k k rfl (by omega) W
    rwa [← hCA, show n - k = m by omega] at this
  have HLB : ∀ W, (Instr.sliceAt 53 (.slice B n d) (some (.int .i64 (k : Int))) none none).run Tryd.prog W = .ok (.slice CB m (d - k)) W := fun W => by
    have := cut_l (P := Tryd.prog) Tryd.underlying53 (by kernel_rfl) B n d k k rfl (by omega) W
    rwa [← hCB, show n - k = m by omega] at this
  have HCA : Hid (∀ W, (Instr.sliceAt 44 (.slice A n c) none (some (.int .i64 (k : Int))) none).run Tryd.prog W = .ok (.slice A k c) W) := Lib.hid fun W => by
    have := cut_h (P := Tryd.prog) Tryd.underlying44 (by kernel_rfl) A n c k k rfl (by omega) W
    rwa [own_cut0 he] at this
  have HCB : Hid (∀ W, (Instr.sliceAt 53 (.slice B n d) none (some (.int .i64 (k : Int))) none).run Tryd.prog W = .ok (.slice B k d) W) := Lib.hid fun W => by
    have := cut_h (P := Tryd.prog) Tryd.underlying53 (by kernel_rfl) B n d k k rfl (by omega) W
    rwa [own_cut0 hd] at this
  have HCK : Hid (k ≤ n) := Lib.hid (by omega)
  have HCL : Hid (Calls Tryd.prog 37 #[.slice CA m (c - k)] w fun e w' => ∃ A' c', e = .returned (.slice A' m c') ∧ Mine w w' 24 A' m c' (XS.drop k)) := Lib.hid (by
    have hr := (Rd.of_own he).cutA (l := k) (c := c) (by omega) hcap
    rw [← hCA, show n - k = m by omega] at hr
    exact cloneE_any w CA m (c - k) _ hr (fun y hy => by rw [hXS] at hy; exact vv_all P y (List.mem_of_mem_drop hy)) (by omega))
  have HRB : Hid (∀ W, Keeps (fun _ => False) w W → ∀ j, j < m → ∃ g o x, CB = some ⟨g, o, none⟩ ∧ DS[j]? = some x ∧ W.cell? ⟨g, o + j, none⟩ = some (.int .i64 (x : Int)) ∧ maxL (DS.take (j + 1)) = max (maxL (DS.take j)) x) := Lib.hid fun W hW j hj => by
    have hr := ((Rd.of_own hd).cutA (l := k) (c := d) (by omega) hcapd).keep hW (no_outF _ _)
    rw [← hCB, show n - k = m by omega] at hr
    obtain ⟨g, o, e, hc⟩ := hr.2 (by omega)
    obtain ⟨x, hx⟩ : ∃ x, DS[j]? = some x := ⟨_, List.getElem?_eq_getElem (by omega)⟩
    refine ⟨g, o, x, e, hx, ?_, ?_⟩
    · rw [hc j hj, hYS, ← List.map_drop, List.getElem?_map]
      rw [hDS, List.getElem?_map] at hx
      cases hp : (P.drop k)[j]? with
      | none => rw [hp] at hx; cases hx
      | some t => rw [hp] at hx; simp at hx; simp [hx]
    · rw [List.take_add_one, hx]
      exact maxL_app _ _
  have HDL := Lib.hid hdl
  have HEND : Hid (∀ (w4 : World) (A' : Option Addr) (c' : Nat), Mine w w4 24 A' m c' (XS.drop k) → w4.cell? ⟨p, 0, none⟩ = some (.slice A n c) ∧ ∃ u' v', PileAt lo ((w4.setCell ⟨p, 0, none⟩ (.slice A k c)).setCell ⟨p, 1, none⟩ (.slice B k d)) p u' v' (P.take k) ∧
      ((w4.setCell ⟨p, 0, none⟩ (.slice A k c)).setCell ⟨p, 1, none⟩ (.slice B k d)).ownsRow 0 24 1 (.slice A' m c') m ((P.drop k).map vv) ∧ (∀ g, (Value.slice A' m c').ownBlock = some g → Bq lo p u' v' g ∧ w.heap.size ≤ g) ∧ (∀ t, t ∈ P.drop k → At (Bq lo p u' v') ((w4.setCell ⟨p, 0, none⟩ (.slice A k c)).setCell ⟨p, 1, none⟩ (.slice B k d)) t) ∧ Keeps (fun i => i = p) w ((w4.setCell ⟨p, 0, none⟩ (.slice A k c)).setCell ⟨p, 1, none⟩ (.slice B k d))) := Lib.hid fun w4 A' c' hm => by
    have hk4 := hm.2.1
    have hl : (P.take k).length = k := by rw [List.length_take]; omega
    have hP4 := h.read hk4 (fun _ _ h => h)
    have hb4 := hP4.blk
    obtain ⟨r1, r2, r3⟩ := hP4.stored (u' := .slice A k c) (v' := .slice B k d) (P' := P.take k) (Keeps.refl _ w4)
      (by rw [hl, List.map_take]; have := own_short (hk4.own he (fun _ _ h => h)) (k := k) (by omega); rwa [hXS] at this)
      (by rw [hl, List.map_take]; have := own_short (hk4.own hd (fun _ _ h => h)) (k := k) (by omega); rwa [hYS] at this)
      (.inl (own_blockEq _ _ _ _ _)) (.inl (own_blockEq _ _ _ _ _)) (fun t ht => hP4.at_ t (List.mem_of_mem_take ht))
    have hset : Keeps (fun i => i = p) w4 ((w4.setCell ⟨p, 0, none⟩ (.slice A k c)).setCell ⟨p, 1, none⟩ (.slice B k d)) := ((Keeps.refl (fun i => i = p) w4).setCell (p := ⟨p, 0, none⟩) (.inl rfl) _).setCell (p := ⟨p, 1, none⟩) (.inl rfl) _
    refine ⟨hb4.cell 0, _, _, r1, ?_, fun g hg => ?_, fun t ht => r3 t (hP4.at_ t (List.mem_of_mem_drop ht)), (hk4.mono (G := fun i => i = p) (fun _ _ h => h.elim)).trans hset (fun _ _ e => e)⟩
    · rw [List.map_drop, ← hXS]
      refine hset.own hm.1 (fun g hg e => ?_)
      have h1 := hm.2.2 g hg
      have e' : g = p := e
      omega
    · have h1 := hm.2.2 g hg
      refine ⟨⟨by have := h.hp; omega, by omega, fun e => ?_, fun e => ?_⟩, h1⟩
      · rw [own_blockEq A k c n c] at e
        have := (he.lt g e).2
        omega
      · rw [own_blockEq B k d n d] at e
        have := (hd.lt g e).2
        omega
  have HDS := Lib.hid hDS
  have hw1 : IntKind.i64.wrap ((n : Int) - (m : Int)) = (k : Int) := by rw [IntKind.wrap_i64]; omega
  have hmn : m ≤ 1048576 := by omega
  have HM : Hid (∀ j, j ≤ m → DS.length = m) := Lib.hid fun _ _ => hdl
  rw [← hDS]
  clear h he hd hXS hYS hDS hdl hcap hcapd hCA hCB hnn hk hlt
  have hb0 := HB.out.cell 0
  go_enter Tryd.func31, Tryd.ntmps31
  go_upto_region 4 with (go_at_call 37; refine HCL.out.mono ?_; rintro e w4 ⟨A4, c4, rfl, hm4⟩; have HM4 := Lib.hid hm4; clear hm4)
  have HB4 := Lib.hid (HM4.out.2.1.blk HB.out (fun h => h))
  have hb1 := HB4.out.cell 1
  clear hb0
  go_wp2
  go_loop [8, 32] (fun dp i => ∃ j : Nat, j ≤ m ∧ i = .int .i64 j ∧ dp = .int .i64 ((maxL (DS.take j) : Nat) : Int)) (fun _ i => m - (intOf i).toNat)
  case atStart => exact ⟨0, by omega, rfl, rfl⟩
  case round =>
    obtain ⟨j, hj, rfl, rfl⟩ := hrel
    by_cases hlt : j < m
    · obtain ⟨g, o, x, hCBe, hx, hcell, hmx⟩ := HRB.out w4 HM4.out.2.1 j hlt
      subst hCBe
      obtain ⟨y, hy⟩ : ∃ y, y = maxL (DS.take j) := ⟨_, rfl⟩
      rw [← hy] at hmx ⊢
      have HMX := Lib.hid hmx
      clear hx hmx hy
      go_wp2
      go_round
      case rel => exact ⟨j + 1, by omega, by go_num, by rw [HMX.out]; congr 1; omega⟩
      case measure => simp [intOf]; omega
    · obtain rfl : j = m := by omega
      clear hb1
      go_upto_region 9 with fail
      refine wp_region_tail (S := Keeps (fun _ => False) w4) 14 (by kernel_rfl) (Keeps.refl _ _).drew (fun hHeld => ?_)
      refine wpAnyT_pure (i := 0) (oi := ⟨some 40, _, _, _, _, _⟩) (v := ?_) rfl (by kernel_rfl) (by kernel_rfl) (by kernel_rfl) (fun _ _ _ h => h) (Or.inl ⟨by rfl, ?_⟩) ?_
      rotate_left
      · intro w' hSw
        go_simp
        first | done | rfl
      try simp only [Act.put, List.setIfInBounds_toArray, List.set_cons_zero, List.set_cons_succ]
      refine wpAnyT_pure (i := 1) (oi := ⟨some 41, _, _, _, _, _⟩) (v := ?_) rfl (by kernel_rfl) (by kernel_rfl) (by kernel_rfl) (fun _ _ _ h => h) (Or.inl ⟨by rfl, ?_⟩) ?_
      rotate_left
      · intro w' hSw
        go_simp
        first | done | rfl
      try simp only [Act.put, List.setIfInBounds_toArray, List.set_cons_zero, List.set_cons_succ]
      refine wpAnyT_pure (i := 2) (oi := ⟨some 42, _, _, _, _, _⟩) (v := ?_) rfl (by kernel_rfl) (by kernel_rfl) (by kernel_rfl) (fun _ _ _ h => h) (Or.inl ⟨by rfl, ?_⟩) ?_
      rotate_left
      · intro w' hSw
        go_simp
        first | done | rfl
      try simp only [Act.put, List.setIfInBounds_toArray, List.set_cons_zero, List.set_cons_succ]
      refine wpAnyT_pure (i := 3) (oi := ⟨some 43, _, _, _, _, _⟩) (v := ?_) rfl (by kernel_rfl) (by kernel_rfl) (by kernel_rfl) (fun _ _ _ h => h) (Or.inl ⟨by rfl, ?_⟩) ?_
      rotate_left
      · intro w' hSw
        go_simp
        first | done | rfl
      try simp only [Act.put, List.setIfInBounds_toArray, List.set_cons_zero, List.set_cons_succ]
      refine wpAnyT_pure (i := 4) (oi := ⟨some 44, _, _, _, _, _⟩) (v := ?_) rfl (by kernel_rfl) (by kernel_rfl) (by kernel_rfl) (fun _ _ _ h => h) (Or.inl ⟨by rfl, ?_⟩) ?_
      rotate_left
      · intro w' hSw
        go_simp
        first | done | rfl
      try simp only [Act.put, List.setIfInBounds_toArray, List.set_cons_zero, List.set_cons_succ]
      refine wpAnyT_take [5] (i := 5) (oi := ⟨some 45, _, _, _, _, _⟩) (v := ?_) rfl (by kernel_rfl) (by kernel_rfl) (by kernel_rfl) (by kernel_rfl) (by kernel_rfl) (fun _ _ _ h => h) (Or.inl ⟨by rfl, ?_⟩) hHeld ?_
      rotate_left
      · intro w' hSw
        have cv := (hSw.blk HB4.out (fun h => h)).cell 0
        go_simp
        first | done | rfl
      try simp only [Act.put, List.setIfInBounds_toArray, List.set_cons_zero, List.set_cons_succ]
      refine wpAnyT_pure (i := 6) (oi := ⟨some 46, _, _, _, _, _⟩) (v := ?_) rfl (by kernel_rfl) (by kernel_rfl) (by kernel_rfl) (fun _ _ _ h => h) (Or.inl ⟨by rfl, ?_⟩) ?_
      rotate_left
      · intro w' hSw
        go_simp
        first | done | rfl
      try simp only [Act.put, List.setIfInBounds_toArray, List.set_cons_zero, List.set_cons_succ]
      refine wpAnyT_pure (i := 7) (oi := ⟨some 47, _, _, _, _, _⟩) (v := ?_) rfl (by kernel_rfl) (by kernel_rfl) (by kernel_rfl) (fun _ _ _ h => h) (Or.inl ⟨by rfl, ?_⟩) ?_
      rotate_left
      · intro w' hSw
        have c1 := HCA.out; have c2 := HCK.out
        go_simp
        first | done | rfl
      try simp only [Act.put, List.setIfInBounds_toArray, List.set_cons_zero, List.set_cons_succ]
      refine wpAnyT_pure (i := 8) (oi := ⟨some 48, _, _, _, _, _⟩) (v := ?_) rfl (by kernel_rfl) (by kernel_rfl) (by kernel_rfl) (fun _ _ _ h => h) (Or.inl ⟨by rfl, ?_⟩) ?_
      rotate_left
      · intro w' hSw
        go_simp
        first | done | rfl
      try simp only [Act.put, List.setIfInBounds_toArray, List.set_cons_zero, List.set_cons_succ]
      refine wpAnyT_pure (i := 9) (oi := ⟨some 49, _, _, _, _, _⟩) (v := ?_) rfl (by kernel_rfl) (by kernel_rfl) (by kernel_rfl) (fun _ _ _ h => h) (Or.inl ⟨by rfl, ?_⟩) ?_
      rotate_left
      · intro w' hSw
        go_simp
        first | done | rfl
      try simp only [Act.put, List.setIfInBounds_toArray, List.set_cons_zero, List.set_cons_succ]
      refine wpAnyT_pure (i := 10) (oi := ⟨some 50, _, _, _, _, _⟩) (v := ?_) rfl (by kernel_rfl) (by kernel_rfl) (by kernel_rfl) (fun _ _ _ h => h) (Or.inl ⟨by rfl, ?_⟩) ?_
      rotate_left
      · intro w' hSw
        go_simp
        first | done | rfl
      try simp only [Act.put, List.setIfInBounds_toArray, List.set_cons_zero, List.set_cons_succ]
      refine wpAnyT_take [11] (i := 11) (oi := ⟨some 51, _, _, _, _, _⟩) (v := ?_) rfl (by kernel_rfl) (by kernel_rfl) (by kernel_rfl) (by kernel_rfl) (by kernel_rfl) (fun _ _ _ h => h) (Or.inl ⟨by rfl, ?_⟩) hHeld ?_
      rotate_left
      · intro w' hSw
        have cv := (hSw.blk HB4.out (fun h => h)).cell 1
        go_simp
        first | done | rfl
      try simp only [Act.put, List.setIfInBounds_toArray, List.set_cons_zero, List.set_cons_succ]
      refine wpAnyT_pure (i := 12) (oi := ⟨some 52, _, _, _, _, _⟩) (v := ?_) rfl (by kernel_rfl) (by kernel_rfl) (by kernel_rfl) (fun _ _ _ h => h) (Or.inl ⟨by rfl, ?_⟩) ?_
      rotate_left
      · intro w' hSw
        go_simp
        first | done | rfl
      try simp only [Act.put, List.setIfInBounds_toArray, List.set_cons_zero, List.set_cons_succ]
      refine wpAnyT_pure (i := 13) (oi := ⟨some 53, _, _, _, _, _⟩) (v := ?_) rfl (by kernel_rfl) (by kernel_rfl) (by kernel_rfl) (fun _ _ _ h => h) (Or.inl ⟨by rfl, ?_⟩) ?_
      rotate_left
      · intro w' hSw
        have c1 := HCB.out; have c2 := HCK.out
        go_simp
        first | done | rfl
      try simp only [Act.put, List.setIfInBounds_toArray, List.set_cons_zero, List.set_cons_succ]
      refine wpAnyT_tail (i := 14) (o := ⟨some 54, _, _, _, _, _⟩) (by kernel_rfl) (by kernel_rfl) rfl (fun K hK => ?_)
      go_simp
      refine hK.out _ _ ?_
      clear hK K
      try simp only [Act.put, List.setIfInBounds_toArray, List.set_cons_zero, List.set_cons_succ]
      refine wpAnyT_tail (i := 15) (o := ⟨some 55, _, _, _, _, _⟩) (by kernel_rfl) (by kernel_rfl) rfl (fun K hK => ?_)
      go_simp
      refine hK.out _ _ ?_
      clear hK K
      try simp only [Act.put, List.setIfInBounds_toArray, List.set_cons_zero, List.set_cons_succ]
      refine wpAnyT_tail (i := 16) (o := ⟨none, _, _, _, _, _⟩) (by kernel_rfl) (by kernel_rfl) rfl (fun K hK => ?_)
      have hst := HB4.out.cell 0
      have hst2 := HB4.out.frozen 0
      have hst3 := HB4.out.cell 1
      have hst4 := HB4.out.frozen 1
      go_simp
      refine hK.out _ _ ?_
      clear hK K
      try simp only [Act.put, List.setIfInBounds_toArray, List.set_cons_zero, List.set_cons_succ]
      refine wpAnyT_tail (i := 17) (o := ⟨some 56, _, _, _, _, _⟩) (by kernel_rfl) (by kernel_rfl) rfl (fun K hK => ?_)
      go_simp
      refine hK.out _ _ ?_
      clear hK K
      try simp only [Act.put, List.setIfInBounds_toArray, List.set_cons_zero, List.set_cons_succ]
      refine wpAnyT_tail (i := 18) (o := ⟨some 57, _, _, _, _, _⟩) (by kernel_rfl) (by kernel_rfl) rfl (fun K hK => ?_)
      go_simp
      refine hK.out _ _ ?_
      clear hK K
      try simp only [Act.put, List.setIfInBounds_toArray, List.set_cons_zero, List.set_cons_succ]
      refine wpAnyT_tail (i := 19) (o := ⟨none, _, _, _, _, _⟩) (by kernel_rfl) (by kernel_rfl) rfl (fun K hK => ?_)
      go_simp
      refine hK.out _ _ ?_
      clear hK K
      try simp only [Act.put, List.setIfInBounds_toArray, List.set_cons_zero, List.set_cons_succ]
      refine wpAnyT_done (by kernel_rfl) ?_

      go_wp2
      go_ret2
      obtain ⟨u', v', r1, r2, r3, r4, r5⟩ := (HEND.out w4 A4 c4 HM4.out).2
      have hdr := (Keeps.refl (fun _ => False) ((w4.setCell ⟨p, 0, none⟩ (.slice A k c)).setCell ⟨p, 1, none⟩ (.slice B k d))).drew
      have hDT : DS.take j = DS := List.take_of_length_le (by have := HM.out j (Nat.le_refl _); omega)
      exact ⟨A4, c4, by rw [hDT]; rfl, u', v', r1.read hdr (fun _ _ h => h), by rw [← List.map_drop]; exact hdr.own r2 (fun _ _ h => h), r3, fun t ht => (r4 t ht).keep hdr (fun _ _ h => h), r5.trans hdr (fun _ _ h => h.elim)⟩
end Go.Proofs.YtinonjfnhedlpaaDoor
