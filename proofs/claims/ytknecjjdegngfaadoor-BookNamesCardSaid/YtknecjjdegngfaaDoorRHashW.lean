/-
  WALKS: the reference's hash: New, Copy, Len.
-/
import Derived.Test.YtknecjjdegngfaaDoorRRoundW
import Derived.Test.YtknecjjdegngfaaDoorBaseW
set_option linter.unusedSimpArgs false
namespace Go.Proofs.YtknecjjdegngfaaDoor
open Go Go.RowKit Go.Sha Go.Aff

theorem hcells_length (S : Nat → Int) (nb : Int) (v : Value) : (hcells S nb v).length = 10 := by simp [hcells, wl]
theorem hcells_set9 (S : Nat → Int) (nb : Int) (v v' : Value) : (hcells S nb v).set 9 v' = hcells S nb v' := rfl

set_option maxHeartbeats 1000000 in
set_option maxRecDepth 100000 in
theorem rnew_any (w : World) : Calls Tryd.prog 74 #[] w fun e w' => e = .returned (.agg (hcells first 0 (.slice none 0 0)).toArray) ∧ Keeps (fun _ => False) w w' := by
  have hf := fun wx => refFirst_any wx
  have hz := Blk.new w 117 (hcells (fun _ => 0) 0 (.slice none 0 0))
  have hF : vi .u32 firstL = wl first := by rfl
  simp only [hF] at hf
  have HF := Lib.hid hf
  have HZ := Lib.hid hz
  clear hf hz hF
  go_enter Tryd.func74, Tryd.ntmps74
  go_wp2_with (first
    | (go_at_call 88; refine (HF.out _).mono ?_; rintro e w1 ⟨rfl, hk1⟩)
    | ((with_reducible show wpList _ _ _ (⟨none, Op.store 117 _ _, _, _, _, _⟩ :: _) _ _); refine wpList_store_whole rfl 117 _ _ rfl (hcells first 0 (.slice none 0 0)) rfl rfl (hk1.blk HZ.out (fun h => h)) (by rw [hcells_length, hcells_length]) (by rw [hcells_length]; kernel_rfl) (by intro u hu; rcases List.mem_append.1 hu with h | h; (obtain ⟨i, _, rfl⟩ := List.mem_map.1 h; rfl); (simp at h; rcases h with rfl | rfl <;> rfl)) ?_))
  refine bodyPost_ret (results_blk rfl _ _ rfl ((hk1.blk HZ.out (fun h => h)).setRow (hcells first 0 (.slice none 0 0))) Tryd.underlying117 rfl (by rw [hcells_length]; kernel_rfl)) rfl ⟨rfl, (((Keeps.refl _ w).alloc _).trans hk1 (fun _ _ h => h)).setRow (.inr (Nat.le_refl _)) _⟩

theorem hcells_one' (S : Nat → Int) (nb : Int) (A : Option Addr) (n c : Nat) : ∀ u ∈ hcells S nb (.slice A n c), u.oneCell' = true := hcells_one S nb A n c

set_option maxHeartbeats 1000000 in
set_option maxRecDepth 100000 in
theorem rcopy_any (w : World) (S : Nat → Int) (nb : Int) (A : Option Addr) (r c : Nat) (X : List Int) (hr : Rd w A r (vb X)) (hr64 : r ≤ 64) :
    Calls Tryd.prog 89 #[.agg (hcells S nb (.slice A r c)).toArray] w fun e w' => ∃ A' c', e = .returned (.agg (hcells S nb (.slice A' r c')).toArray) ∧ w'.ownsRow 0 5 1 (.slice A' r c') r (vb X) ∧ Keeps (fun _ => False) w w' ∧ ∀ g, (Value.slice A' r c').ownBlock = some g → w.heap.size ≤ g := by
  have hb1 := (Blk.new w 117 (hcells S nb (.slice A r c))).alloc (.cells (hcells (fun _ => 0) 0 (.slice none 0 0)).toArray 117)
  have hb2 := Blk.new (w.alloc (.cells (hcells S nb (.slice A r c)).toArray 117)) 117 (hcells (fun _ => 0) 0 (.slice none 0 0))
  rw [World.size_alloc] at hb2
  obtain ⟨cs, hcs⟩ : ∃ cs, cs = (hcells S nb (.slice A r c)).toArray := ⟨_, rfl⟩
  have k9 : cs[9]? = some (.slice A r c) := by rw [hcs]; rfl
  rw [← hcs] at hb1 hb2 ⊢
  obtain ⟨W0, hW0⟩ : ∃ W0, W0 = ((w.alloc (.cells cs 117)).alloc (.cells (hcells (fun _ => 0) 0 (.slice none 0 0)).toArray 117)) := ⟨_, rfl⟩
  have hsz : W0.heap.size = w.heap.size + 1 + 1 := by rw [hW0]; simp
  have hkw : Keeps (fun _ => False) w W0 := by rw [hW0]; exact ((Keeps.refl _ w).alloc _).alloc _
  rw [← hW0] at hb1 hb2
  have ho1 : (W0.alloc (.cells #[] 5)).ownsRow 0 5 1 (.slice (some ⟨W0.heap.size, 0, none⟩) 0 0) 0 [] := World.ownsRow_made W0 #[] 0 (by omega) (by unfold maxLen; omega) rfl
  have hr1 : Rd (W0.alloc (.cells #[] 5)) A r (vb X) := (hr.keep hkw (no_out _ _)).alloc _
  rw [hsz, hW0] at ho1
  rw [hW0] at hr1
  have HO1 := Lib.hid ho1
  have HR1 := Lib.hid hr1
  have HG : Hid (∀ w', (W0.alloc (.cells #[] 5)).grownBy w' (some (w.heap.size + 1 + 1)) → Blk w' w.heap.size 117 (hcells S nb (.slice A r c)) ∧ Blk w' (w.heap.size + 1) 117 (hcells (fun _ => 0) 0 (.slice none 0 0)) ∧ Keeps (fun _ => False) w w') := by
    intro w' hg
    have hk := Keeps.of_grown hg
    refine ⟨hk.blk (hb1.alloc _) (fun e => by injection e with e; omega), hk.blk (hb2.alloc _) (fun e => by injection e with e; omega), (hkw.alloc _).grown hg (fun g e => .inr (by injection e with e; omega))⟩
  rw [hW0] at HG
  clear hb1 hb2 hcs hW0 hsz hkw ho1 hr1 hr
  go_enter Tryd.func89, Tryd.ntmps89
  go_wp2_with (first
    | (at_builtin; refine wpList_append_rd _ rfl (.tmp 3) (.tmp 5) 22 rfl 5 (.int .u8 0) 1 Tryd.underlying22 info5 rfl _ 0 [] rfl HO1.out A r c (vb X) rfl HR1.out (vb_one X) (by unfold maxLen; omega) (by omega) ?_; intro A' c' w' hown hg hb; obtain ⟨hq1, hq2, hq3⟩ := HG.out w' hg; have c9 : w'.cell? ⟨w.heap.size, 9, none⟩ = some (.slice A r c) := (hq1.cell 9); have f9 := hq1.frozen 9; simp only [Nat.zero_add, List.nil_append] at hown hb ⊢; have HOWN := Lib.hid hown; have HNB := Lib.hid hb; have HQ1 := Lib.hid (hq1.set_ 9 (.slice A' r c')); have HQ2 := Lib.hid (hq2.far (show w.heap.size + 1 ≠ w.heap.size by omega) (p := ⟨w.heap.size, 9, none⟩) (.slice A' r c')); have HQ3 := Lib.hid hq3; clear hown hg hb hq1 hq2 hq3)
    | ((with_reducible show wpList _ _ _ (⟨some _, Op.load 117 _, _, _, _, _⟩ :: _) _ _); refine wpList_load_whole rfl 117 _ rfl _ rfl HQ1.out Tryd.underlying117 rfl (by rw [hcells_set9, hcells_length]; kernel_rfl) ?_)
    | ((with_reducible show wpList _ _ _ (⟨none, Op.store 117 _ _, _, _, _, _⟩ :: _) _ _); refine wpList_store_whole rfl 117 _ _ rfl (hcells S nb (.slice A' r c')) rfl rfl HQ2.out (by rw [hcells_length, hcells_length]) (by rw [hcells_length]; kernel_rfl) (hcells_one S nb _ _ _) ?_))
  refine bodyPost_ret (results_blk rfl _ _ rfl (HQ2.out.setRow (hcells S nb (.slice A' r c'))) Tryd.underlying117 rfl (by rw [hcells_length]; kernel_rfl)) rfl ⟨A', c', rfl, ?_, ?_, ?_⟩
  · have h1 : ∀ g, (Value.slice A' r c').ownBlock = some g → g ≠ w.heap.size ∧ g ≠ w.heap.size + 1 := by
      intro g hg
      rcases HNB.out with h | h
      · have e : some (w.heap.size + 1 + 1) = some g := h.symm.trans hg
        injection e with e
        omega
      · rw [h] at hg
        injection hg with e
        simp at e
        omega
    have k1 := Keeps.own ((Keeps.refl (fun i => i = w.heap.size) w').setCell (p := ⟨w.heap.size, 9, none⟩) (.inl rfl) (.slice A' r c')) HOWN.out (fun g hg e => (h1 g hg).1 e)
    exact Keeps.own ((Keeps.refl (fun i => i = w.heap.size + 1) _).setRow (.inl rfl) _) k1 (fun g hg e => (h1 g hg).2 e)
  · exact (HQ3.out.setCell (.inr (Nat.le_refl _)) _).setRow (.inr (by omega)) _
  · intro g hg
    rcases HNB.out with h | h
    · have e : some (w.heap.size + 1 + 1) = some g := h.symm.trans hg
      injection e with e
      omega
    · rw [h] at hg
      injection hg with e
      simp at e
      omega
end Go.Proofs.YtknecjjdegngfaaDoor
