/-
  WALKS: New, Len, Clone, pad.
-/
import Derived.Test.YtnlnbgjpbnjjfaaDoorRoundW
import Derived.Test.YtnlnbgjpbnjjfaaDoorHashP
import Derived.Test.YtnlnbgjpbnjjfaaDoorQOrd
import Derived.Laws.CopyOwn
import Derived.Laws.AppendOwnNone
namespace Go.Proofs.YtnlnbgjpbnjjfaaDoor
open Go Go.RowKit Go.Sha Go.Aff

/-- What the listed variables hold. -/
def Glob (w : World) : Prop := (∀ t, t < 64 → w.cell? ⟨1, t, none⟩ = some (.int .u32 (K.getD t 0))) ∧ (∀ i, i < 8 → w.cell? ⟨0, i, none⟩ = some (.int .u32 (first i)))
theorem Glob.lt {w : World} (h : Glob w) : 2 ≤ w.heap.size := by
  have h0 := World.block_lt_of_cell? w _ (h.1 0 (by omega))
  have h1 := World.block_lt_of_cell? w _ (h.2 0 (by omega))
  dsimp only at h0 h1
  omega
theorem Glob.keep {F : Nat → Prop} {w w' : World} (h : Glob w) (hk : Keeps F w w') (hF : ∀ i, F i → 2 ≤ i) : Glob w' := by
  have h2 := h.lt
  refine ⟨fun t ht => (hk.cell (p := ⟨1, t, none⟩) ?_ (fun hf => ?_)).trans (h.1 t ht), fun i hi => (hk.cell (p := ⟨0, i, none⟩) ?_ (fun hf => ?_)).trans (h.2 i hi)⟩
  · show 1 < w.heap.size; omega
  · have := hF _ hf; dsimp only at this; omega
  · show 0 < w.heap.size; omega
  · have := hF _ hf; dsimp only at this; omega

/-- A hash's cells. -/
def hcells (S : Nat → Int) (nb : Int) (v : Value) : List Value := wl S ++ [.int .u64 nb, v]

set_option maxRecDepth 100000 in
theorem new_any (w : World) (hG : Glob w) :
    Calls Tryd.prog 45 #[] w fun e w' => e = .returned (.pointer (some ⟨w.heap.size, 0, none⟩)) ∧ w' = w.alloc (.cells (hcells first 0 (.slice none 0 0)).toArray 99) := by
  have g0 := hG.2 0 (by omega)
  have g1 := hG.2 1 (by omega)
  have g2 := hG.2 2 (by omega)
  have g3 := hG.2 3 (by omega)
  have g4 := hG.2 4 (by omega)
  have g5 := hG.2 5 (by omega)
  have g6 := hG.2 6 (by omega)
  have g7 := hG.2 7 (by omega)
  clear hG
  go_enter Tryd.func45, Tryd.ntmps45
  go_wp2
  go_ret
  exact ⟨rfl, rfl⟩

set_option maxRecDepth 100000 in
theorem len_any (w : World) (p : Nat) (S : Nat → Int) (nb : Int) (A : Option Addr) (n c : Nat) (hb : Blk w p 99 (hcells S nb (.slice A n c))) (h0 : 0 ≤ nb) (h1 : 64 * nb + n < 2305843009213693952) (hn : n < 64) :
    Calls Tryd.prog 58 #[.pointer (some ⟨p, 0, none⟩)] w fun e w' => e = .returned (.int .u64 (64 * nb + n)) ∧ ∃ k, w' = w.drewN k := by
  have c8 : w.cell? ⟨p, 8, none⟩ = some (.int .u64 nb) := by rw [hb.cell]; rfl
  have c9 : w.cell? ⟨p, 9, none⟩ = some (.slice A n c) := by rw [hb.cell]; rfl
  clear hb
  go_enter Tryd.func58, Tryd.ntmps58
  go_wp2
  go_quiet (fail)
  go_wp2
  go_ret
  exact ⟨by simp, _, rfl⟩

theorem info5 : (Tryd.prog.info? 5).map (fun i => (i.zero, i.size, i.bytes)) = some (some (.int .u8 0), 1, 1) := by kernel_rfl
theorem vb_one (bs : List Int) : ∀ u ∈ vb bs, u.oneCell' = true := by intro u hu; obtain ⟨x, _, rfl⟩ := List.mem_map.1 hu; rfl

/-- What a call leaves that hands back bytes in new memory. -/
def NewBytes (w : World) (bs : List Int) (e : Ending) (w' : World) : Prop :=
  ∃ A c, e = .returned (.slice A bs.length c) ∧ w'.ownsRow 0 5 1 (.slice A bs.length c) bs.length (vb bs) ∧ Keeps (fun _ => False) w w' ∧ ∀ g, (Value.slice A bs.length c).ownBlock = some g → w.heap.size ≤ g

set_option maxRecDepth 100000 in
theorem clone_any (w : World) (A : Option Addr) (c : Nat) (bs : List Int) (hr : Rd w A bs.length (vb bs)) (hn : bs.length ≤ 140737488355328) :
    Calls Tryd.prog 44 #[.slice A bs.length c] w (NewBytes w bs) := by
  have HR := Lib.hid hr
  clear hr
  rcases A with _ | ad
  · have h0 : bs = [] := by
      rcases bs with _ | ⟨x, bs⟩
      · rfl
      · obtain ⟨g, o, e, _⟩ := HR.out.2 (by simp)
        cases e
    subst h0
    have hnil := fun wx => Lib.run_eql_slice_nil (P := Tryd.prog) wx 22 5 none 0 c 0 0 Tryd.underlying22
    go_enter Tryd.func44, Tryd.ntmps44
    go_wp2
    go_ret
    exact ⟨none, 0, rfl, World.ownsRow_nil _ _ _ _, Keeps.refl _ _, fun g e => by cases e⟩
  · obtain ⟨n, hbn⟩ : ∃ n, n = bs.length := ⟨_, rfl⟩
    have HN := Lib.hid hbn
    have hnil := fun wx => Lib.run_eql_slice_nil (P := Tryd.prog) wx 22 5 (some ad) n c 0 0 Tryd.underlying22
    rw [← hbn] at hn ⊢
    clear hbn
    have hr1 : Rd (w.alloc (.cells #[] 5)) (some ad) n (vb bs) := by rw [HN.out]; exact HR.out.alloc _
    have ho1 : (w.alloc (.cells #[] 5)).ownsRow 0 5 1 (.slice (some ⟨w.heap.size, 0, none⟩) 0 0) 0 [] := World.ownsRow_made w #[] 0 (by omega) (by unfold maxLen; omega) rfl
    have HR1 := Lib.hid hr1
    have HO1 := Lib.hid ho1
    clear hr1 ho1
    go_enter Tryd.func44, Tryd.ntmps44
    go_wp2_with (at_builtin; refine wpList_append_rd _ rfl (.tmp 5) (.tmp 6) 22 rfl 5 (.int .u8 0) 1 Tryd.underlying22 info5 rfl _ 0 [] rfl HO1.out (some ad) n c (vb bs) rfl HR1.out (vb_one bs) (by unfold maxLen; omega) (by omega) ?_; intro A' c' w' hown hg hb)
    go_ret
    simp only [Nat.zero_add, List.nil_append] at hown hb
    have hv : (Value.slice A' n c').ownBlock = some w.heap.size ∨ (Value.slice A' n c').ownBlock = some (w.alloc (Obj.cells #[] 5)).heap.size := hb
    refine ⟨A', c', by rw [← HN.out]; simp, by rw [← HN.out]; exact hown, ?_, ?_⟩
    · exact ((Keeps.refl _ _).alloc _).grown hg (fun g e => .inr (by have e' : some w.heap.size = some g := e; injection e' with e'; omega))
    · intro g hg'
      rw [← HN.out] at hg'
      rcases hv with hv | hv
      · rw [hv] at hg'; injection hg' with e; omega
      · rw [hv] at hg'; injection hg' with e; simp at e; omega
end Go.Proofs.YtnlnbgjpbnjjfaaDoor
