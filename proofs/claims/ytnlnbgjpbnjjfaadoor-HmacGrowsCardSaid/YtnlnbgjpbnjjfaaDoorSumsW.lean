/-
  WALKS: Sum of parts.
-/
import Derived.Test.YtnlnbgjpbnjjfaaDoorSumW
namespace Go.Proofs.YtnlnbgjpbnjjfaaDoor
open Go Go.RowKit Go.Sha Go.Aff

/-- A slice of byte slices reads as a list of rows. -/
def RdParts (w : World) (A : Option Addr) (pss : List (List Int)) : Prop :=
  ∃ vals : List Value, Rd w A pss.length vals ∧ ∀ (i : Nat) (bs : List Int), pss[i]? = some bs → ∃ A' c', vals[i]? = some (Value.slice A' bs.length c') ∧ Rd w A' bs.length (vb bs) ∧ IsBytes bs ∧ bs.length ≤ c'

/-- While the parts are written (i of them are); N: the result's block, q: the hash. -/
def SumsRel (w : World) (N q : Nat) (pss : List (List Int)) (i : Nat) (wr : World) : Prop :=
  ∃ v, HashAt wr q v first 0 (pss.take i).flatten ∧ Keeps (fun _ => False) w wr ∧ (∀ j, Foot q v j → N < j) ∧ w.heap.size ≤ N ∧ Blk wr N 41 (List.replicate 32 (Value.int .u8 0))

theorem hash_new (w : World) : HashAt (w.alloc (.cells (hcells first 0 (.slice none 0 0)).toArray 99)) w.heap.size (.slice none 0 0) first 0 [] :=
  ⟨Blk.new w 99 (hcells first 0 (.slice none 0 0)), World.ownsRow_nil _ _ _ _, fun x hx => by cases hx⟩

theorem flatten_take_le (pss : List (List Int)) (i : Nat) : (pss.take i).flatten.length ≤ pss.flatten.length := by
  rw [← List.take_append_drop i pss, List.flatten_append, List.take_append_drop]
  simp
theorem part_le (pss : List (List Int)) (i : Nat) (bs : List Int) (h : pss[i]? = some bs) : (pss.take i).flatten.length + bs.length ≤ pss.flatten.length := by
  have e : (pss.take (i + 1)).flatten = (pss.take i).flatten ++ bs := by
    rw [List.take_add_one, h]; simp
  have := flatten_take_le pss (i + 1)
  rw [e, List.length_append] at this
  exact this

set_option maxHeartbeats 4000000 in
set_option maxRecDepth 100000 in
theorem sums_big (w : World) (hG : Glob w) (A : Option Addr) (c : Nat) (pss : List (List Int)) (h : RdParts w A pss) (hn : pss.length ≤ 140737488355328) (hbig : pss.flatten.length < 2305843009213693952) (hreach : ∀ bs ∈ pss, bs.length ≤ 140737488351232) :
    Calls Tryd.prog 20 #[.slice A pss.length c] w fun e w' => e = .returned (.agg (vb (sumF first 0 pss.flatten)).toArray) ∧ Keeps (fun _ => False) w w' := by
  obtain ⟨vals, hr, hp⟩ := h
  have hn2 := hG.lt
  have HG := Lib.hid hG
  have HR := Lib.hid hr
  have HP := Lib.hid hp
  clear hG hr hp
  obtain ⟨n, hnn⟩ : ∃ n, n = pss.length := ⟨_, rfl⟩
  have HN := Lib.hid hnn
  rw [← hnn] at hn ⊢
  clear hnn
  go_enter Tryd.func20, Tryd.ntmps20
  go_wp2_with (first
    | (go_at_call 45; refine (new_any _ (HG.out.keep ((Keeps.refl (fun _ => False) w).alloc _) (fun _ h => h.elim))).mono ?_; rintro e w1 ⟨rfl, rfl⟩))
  have R0 : SumsRel w w.heap.size (w.heap.size + 1) pss 0 ((w.alloc (.cells (List.replicate 32 (Value.int .u8 0)).toArray 41)).alloc (.cells (hcells first 0 (.slice none 0 0)).toArray 99)) := by
    have h1 := hash_new (w.alloc (.cells (List.replicate 32 (Value.int .u8 0)).toArray 41))
    rw [World.size_alloc] at h1
    refine ⟨.slice none 0 0, h1, ((Keeps.refl _ _).alloc _).alloc _, ?_, Nat.le_refl _, (Blk.new _ _ _).alloc _⟩
    intro j hj
    rcases hj with rfl | hj
    · omega
    · cases hj
  go_loopw [5, 9] (fun _ i wr => ∃ k : Nat, k ≤ n ∧ i = .int .i64 k ∧ SumsRel w w.heap.size (w.heap.size + 1) pss k wr) (fun _ i _ => n - (intOf i).toNat)
  case atStart => exact ⟨0, by omega, rfl, R0⟩
  case round =>
    clear R0
    obtain ⟨k, hk, rfl, hr⟩ := hrel
    by_cases hlt : k < n
    · obtain ⟨v, hv, hkp, hft, hN0, hz⟩ := hr
      have hlt' : k < pss.length := by have := HN.out; omega
      obtain ⟨bs, hbs⟩ : ∃ bs, pss[k]? = some bs := ⟨_, List.getElem?_eq_getElem hlt'⟩
      obtain ⟨A1, c1, hvk, hr1, hb1, hc1⟩ := HP.out k bs hbs
      obtain ⟨g, o, hA, hcell⟩ := HR.out.2 (by omega)
      subst hA
      have hcw : wr.cell? ⟨g, o + k, none⟩ = some (.slice A1 bs.length c1) := by
        have h1 := (hcell k hlt').trans hvk
        exact (hkp.cell (p := ⟨g, o + k, none⟩) (World.block_lt_of_cell? w _ h1) (fun h => h)).trans h1
      have hle := part_le pss k bs hbs
      have hrb := hreach bs (List.mem_of_getElem? hbs)
      have hXb : IsBytes (pss.take k).flatten := hv.2.2
      have hwr : Calls Tryd.prog 46 #[.pointer (some ⟨w.heap.size + 1, 0, none⟩), .slice A1 bs.length c1] wr fun e w' => e = .returned (.tuple #[]) ∧ SumsRel w w.heap.size (w.heap.size + 1) pss (k + 1) w' := by
        have ho : Out (Foot (w.heap.size + 1) v) A1 bs.length := by
          intro h0 ad e hf
          obtain ⟨g1, o1, e1, hg1⟩ := hr1.lt h0
          rw [e] at e1
          injection e1 with e1
          subst e1
          have := hft _ hf
          exact absurd hg1 (by show ¬ g1 < w.heap.size; have h2 : w.heap.size < g1 := this; omega)
        have := write_any wr (HG.out.keep hkp (fun _ h => h.elim)) (w.heap.size + 1) v first 0 _ hv (fun i hi => by have := hft i hi; omega) A1 c1 bs (hr1.keep hkp (fun _ _ _ h => h)) ho hb1 hc1 (by omega) (by omega)
        refine this.mono fun e w' ⟨he, v', hh, hk', hnew⟩ => ⟨he, v', ?_, hkp.trans hk' (fun i hi hf => by have := hft i hf; omega), ?_, hN0, hk'.blk hz (fun hf => by have := hft _ hf; omega)⟩
        · have e2 : (pss.take (k + 1)).flatten = (pss.take k).flatten ++ bs := by rw [List.take_add_one, hbs]; simp
          rw [e2]; exact hh
        · intro j hj
          rcases hj with rfl | hj
          · omega
          · rcases hnew j hj with h | h
            · exact hft j (.inr h)
            · have := hz.lt; omega
      have HW := Lib.hid hwr
      clear hwr hv hkp hft hz hr1 hb1 hc1 hXb hcell
      go_wp2_with (go_at_call 46; refine HW.out.mono ?_; rintro e w' ⟨rfl, hr'⟩; have HR' := Lib.hid hr'; clear hr')
      go_roundw
      case rel => exact ⟨k + 1, by omega, by go_num, HR'.out⟩
      case measure => simp [intOf]; omega
    · obtain rfl : k = n := by omega
      obtain ⟨v, hv, hkp, hft, hN0, hz⟩ := hr
      have e3 : (pss.take k).flatten = pss.flatten := by rw [HN.out, List.take_length]
      rw [e3] at hv
      have hsum := (sum_any wr (HG.out.keep hkp (fun _ h => h.elim)) (w.heap.size + 1) v first 0 _ hv (by omega))
      have HS := Lib.hid hsum
      have HK := Lib.hid hkp
      have HZ := Lib.hid hz
      clear hsum hv hkp hft hz
      go_wp2_with (first | (go_at_call 47; refine HS.out.mono ?_; rintro e w' ⟨rfl, hk'⟩; have HK' := Lib.hid hk'; have HZ' := Lib.hid (hk'.blk HZ.out (fun h => h)); clear hk') | ((with_reducible show wpList _ _ _ (⟨none, Op.store 41 _ _, _, _, _, _⟩ :: _) _ _); refine wpList_store_whole rfl 41 _ _ rfl (vb (sumF first 0 pss.flatten)) rfl rfl HZ'.out (by simp [vb, sumF_length]) (by rw [show (vb (sumF first 0 pss.flatten)).length = 32 by simp [vb, sumF_length]]; kernel_rfl) (vb_one _) ?_))
      refine bodyPost_ret (results_blk rfl _ _ rfl (HZ'.out.setRow (vb (sumF first 0 pss.flatten))) Tryd.underlying41 rfl (by rw [show (vb (sumF first 0 pss.flatten)).length = 32 by simp [vb, sumF_length]]; kernel_rfl)) rfl ⟨rfl, (HK.out.trans HK'.out (fun _ _ h => h)).setRow (.inr hN0) _⟩
theorem flat_mem {pss : List (List Int)} {bs : List Int} (h : bs ∈ pss) : bs.length ≤ pss.flatten.length := by
  obtain ⟨i, hi⟩ := List.getElem?_of_mem h
  have := part_le pss i bs hi
  omega
theorem sums_any (w : World) (hG : Glob w) (A : Option Addr) (c : Nat) (pss : List (List Int)) (h : RdParts w A pss) (hn : pss.length ≤ 140737488355328) (hbig : pss.flatten.length ≤ 140737488351232) :
    Calls Tryd.prog 20 #[.slice A pss.length c] w fun e w' => e = .returned (.agg (vb (sumF first 0 pss.flatten)).toArray) ∧ Keeps (fun _ => False) w w' :=
  sums_big w hG A c pss h hn (by omega) (fun bs hb => Nat.le_trans (flat_mem hb) hbig)
end Go.Proofs.YtnlnbgjpbnjjfaaDoor
