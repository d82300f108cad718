/-
  Texts put together: NSumW; ObjP; KpK; UtfW.
-/
import Derived.Test.YtdmcioghdindfaaGreatQ07
import Derived.Test.YtdmcioghdindfaaGreatQ06
import Derived.Test.YtdmcioghdindfaaGreatQ05
import Derived.Sort.Grow
import Derived.Lib.ConvBytes
set_option linter.unusedSimpArgs false
namespace Go.Json
theorem sumN_append (a b : List Nat) : sumN (a ++ b) = sumN a + sumN b := by
  induction a with
  | nil => simp [sumN]
  | cons x a ih => simp [sumN, ih]; omega
theorem maxN_append (a b : List Nat) : maxN (a ++ b) = max (maxN a) (maxN b) := by
  induction a with
  | nil => simp [maxN]
  | cons x a ih => simp only [List.cons_append, maxN, ih]; omega
theorem sumN_le {l : List Nat} {m : Nat} (h : ∀ x ∈ l, x ≤ m) : sumN l ≤ l.length * m := by
  induction l with
  | nil => simp [sumN]
  | cons x l ih =>
    have h1 := h x List.mem_cons_self
    have h2 := ih fun y hy => h y (List.mem_cons_of_mem _ hy)
    rw [sumN, List.length_cons, Nat.succ_mul]
    omega
theorem maxN_le {l : List Nat} {m : Nat} (h : ∀ x ∈ l, x ≤ m) : maxN l ≤ m := by
  induction l with
  | nil => simp [maxN]
  | cons x l ih =>
    have h1 := h x List.mem_cons_self
    have h2 := ih fun y hy => h y (List.mem_cons_of_mem _ hy)
    rw [maxN]; omega
end Go.Json
namespace Go.Proofs.YtdmcioghdindfaaGreat
open Go Go.RowKit Go.Aff Go.Json Go.Shelf
/-- The sizes of some values together: how many, how many bytes, how deep the deepest. -/
def sums (L : List JV) : Nat × Nat × Nat := (sumN (L.map fun x => x.nodes), sumN (L.map fun x => x.bytes), maxN (L.map fun x => x.deep))
theorem sums_take {L : List JV} {i : Nat} {x : JV} (h : L[i]? = some x) : sums (L.take (i + 1)) = ((sums (L.take i)).1 + x.nodes, (sums (L.take i)).2.1 + x.bytes, max (sums (L.take i)).2.2 x.deep) := by
  unfold sums
  rw [List.take_add_one, h]
  simp only [Option.toList, List.map_append, sumN_append, maxN_append, List.map_cons, List.map_nil, sumN, maxN, Nat.add_zero, Nat.max_zero]
theorem sums_small {L : List JV} {m : Nat} (h : ∀ x ∈ L, x.within) (hm : L.length ≤ m) : (sums L).1 ≤ m * 65536 ∧ (sums L).2.1 ≤ m * 2097152 ∧ (sums L).2.2 ≤ 512 := by
  refine ⟨?_, ?_, ?_⟩
  · refine Nat.le_trans (sumN_le (m := 65536) fun y hy => ?_) (Nat.mul_le_mul_right _ (by rw [List.length_map]; exact hm))
    obtain ⟨x, hx, rfl⟩ := List.mem_map.1 hy
    exact (h x hx).1
  · refine Nat.le_trans (sumN_le (m := 2097152) fun y hy => ?_) (Nat.mul_le_mul_right _ (by rw [List.length_map]; exact hm))
    obtain ⟨x, hx, rfl⟩ := List.mem_map.1 hy
    exact (h x hx).2.1
  · refine maxN_le fun y hy => ?_
    obtain ⟨x, hx, rfl⟩ := List.mem_map.1 hy
    exact (h x hx).2.2
/-- While they are summed. -/
structure Summing (w wr : World) (g : Nat) (by' : Nat) (L : List JV) (i : Nat) : Prop where
  keep : Keeps (fun _ => False) w wr
  lo : w.heap.size ≤ g
  res : Blk wr w.heap.size 128 [.int .i64 0, .int .i64 0, .int .i64 0]
  blk : Blk wr g 128 [.int .i64 (1 + (sums (L.take i)).1 : Nat), .int .i64 (by' + (sums (L.take i)).2.1 : Nat), .int .i64 (sums (L.take i)).2.2]
  ne : g ≠ w.heap.size
set_option maxHeartbeats 4000000 in
set_option maxRecDepth 100000 in
theorem summed_any {D : Nat → Prop} (w : World) (A : Option Addr) (n c by' : Nat) (vs : List Value) (L : List JV) (hL : L.length = n) (hn : n ≤ 1048576) (hby : by' ≤ 2199023255552) (hw : ∀ x ∈ L, x.within) (hr : Rd w A n vs)
    (hat : ∀ (i : Nat) (v : Value) (x : JV), vs[i]? = some v → L[i]? = some x → JAt D w v x) :
    Calls Tryz.prog 58 #[.slice A n c, .int .i64 by'] w fun e w' => e = .returned (.agg #[.int .i64 (1 + (sums L).1 : Nat), .int .i64 (by' + (sums L).2.1 : Nat), .int .i64 ((sums L).2.2 + 1 : Nat)]) ∧ Keeps (fun _ => False) w w' := by
  have HSM : Hid (∀ i, (sums (L.take i)).1 ≤ 68719476736 ∧ (sums (L.take i)).2.1 ≤ 2199023255552 ∧ (sums (L.take i)).2.2 ≤ 512) := Lib.hid fun i => by
    have := sums_small (L := L.take i) (m := 1048576) (fun x hx => hw x (List.mem_of_mem_take hx)) (by rw [List.length_take]; omega)
    omega
  have HE : Hid (∀ i, i < n → ∃ g o T y f u x, A = some ⟨g, o, none⟩ ∧ w.cell? ⟨g, o + i, none⟩ = some (.iface T y) ∧ L[i]? = some x ∧ (∀ W, Keeps (fun _ => False) w W → (Go.method 332 T y "affidavit/node.sized").run Tryz.prog W = .ok (f, u) W) ∧ Ent f ∧
      ∀ W, Calls Tryz.prog f #[u] W fun e w' => e = .returned (.agg (sizeV x).toArray) ∧ Keeps (fun _ => False) W w') := Lib.hid fun i hi => by
    obtain ⟨g, o, e, hc⟩ := hr.2 (by omega)
    obtain ⟨v, hv⟩ : ∃ v, vs[i]? = some v := ⟨_, List.getElem?_eq_getElem (by rw [hr.1]; exact hi)⟩
    obtain ⟨x, hx⟩ : ∃ x, L[i]? = some x := ⟨_, List.getElem?_eq_getElem (by omega)⟩
    obtain ⟨T, y, f, u, rfl, hm, he, hcl⟩ := sized_inv (hat i v x hv hx)
    exact ⟨g, o, T, y, f, u, x, e, (hc i hi).trans hv, hx, hm, he, hcl⟩
  have HLN := Lib.hid hL
  have hb1 := Blk.new w 128 [.int .i64 0, .int .i64 0, .int .i64 0]
  have HB1 := Lib.hid hb1
  clear hr hat hw hL hb1
  go_enter Tryz.func58, Tryz.ntmps58
  go_upto_region 2 with fail
  have hS0 : Summing w ((w.alloc (.cells #[.int .i64 0, .int .i64 0, .int .i64 0] 128)).alloc (.cells #[.int .i64 1, .int .i64 by', .int .i64 0] 128)) (w.heap.size + 1) by' L 0 := by
    have hb2 := Blk.new (w.alloc (.cells #[.int .i64 0, .int .i64 0, .int .i64 0] 128)) 128 [.int .i64 1, .int .i64 by', .int .i64 0]
    rw [World.size_alloc] at hb2
    exact ⟨((Keeps.refl _ w).alloc _).alloc _, by omega, HB1.out.alloc _, hb2, by omega⟩
  obtain ⟨g, hg⟩ : ∃ g, g = w.heap.size + 1 := ⟨_, rfl⟩
  rw [← hg] at hS0 ⊢
  have HS0 := Lib.hid hS0
  clear hS0 hg HB1
  refine gen_codeF (fun W => Summing w W g by' L 0) HS0.out ?_
  intro w1 hs1
  have HS1 := Lib.hid hs1
  clear hs1 HS0
  go_upto_block 0 with fail
  go_wp2
  go_loopg [13] n (fun gk t wx => ∃ (i : Nat), i ≤ n ∧ t = .int .i64 i ∧ gk = n - i ∧ Hid (Summing w wx g by' L i))
  case atStart => exact ⟨0, by omega, rfl, by omega, HS1⟩
  case round =>
    obtain ⟨i, hi, rfl, hgk, HS⟩ := hrel
    have HGK := Lib.hid hgk
    clear hgk HS1
    by_cases hlt : i < n
    · obtain ⟨ga, o, T, y, f, u, x, rfl, hcl, hx, hm, he, hc⟩ := HE.out i hlt
      unfold Ent at he
      have HC := Lib.hid hc
      have HX := Lib.hid hx
      have HM := Lib.hid hm
      have ce := cell_keep HS.out.keep hcl
      have hmm := hm wr HS.out.keep
      obtain ⟨a1, ha1⟩ : ∃ a, a = (sums (L.take i)).1 := ⟨_, rfl⟩
      obtain ⟨a2, ha2⟩ : ∃ a, a = (sums (L.take i)).2.1 := ⟨_, rfl⟩
      obtain ⟨a3, ha3⟩ : ∃ a, a = (sums (L.take i)).2.2 := ⟨_, rfl⟩
      have hsm := HSM.out i
      have hsm2 := HSM.out (i + 1)
      rw [sums_take hx] at hsm2
      simp only at hsm2
      rw [← ha1, ← ha2, ← ha3] at hsm2
      have hbs := HS.out.blk
      rw [← ha1, ← ha2, ← ha3] at hbs hsm
      have HA := Lib.hid (And.intro ha1 (And.intro ha2 ha3))
      have HBS := Lib.hid hbs
      obtain ⟨p1, hp1⟩ : ∃ a, a = x.nodes := ⟨_, rfl⟩
      obtain ⟨p2, hp2⟩ : ∃ a, a = x.bytes := ⟨_, rfl⟩
      obtain ⟨p3, hp3⟩ : ∃ a, a = x.deep := ⟨_, rfl⟩
      have hcall : ∀ W, Calls Tryz.prog f #[u] W fun e w' => e = .returned (.agg #[.int .i64 p1, .int .i64 p2, .int .i64 p3]) ∧ Keeps (fun _ => False) W w' := by rw [hp1, hp2, hp3]; exact hc
      rw [← hp1, ← hp2, ← hp3] at hsm2
      have HP := Lib.hid (And.intro hp1 (And.intro hp2 hp3))
      have HCA := Lib.hid hcall
      clear hc hx hm hcl ha1 ha2 ha3 hbs hp1 hp2 hp3 hcall HC
      go_upto_region 6 with (first
        | (go_at_fn f; refine (HCA.out _).mono ?_; rintro e w2 ⟨rfl, hk2⟩; have HK2 := Lib.hid hk2; have fz := (Blk.new w2 128 [.int .i64 0, .int .i64 0, .int .i64 0]).frozen; have z0 := fz 0; have z1 := fz 1; have z2 := fz 2; clear hk2 fz))
      obtain ⟨zb, hzb⟩ : ∃ zb, zb = w2.heap.size := ⟨_, rfl⟩
      have hk3 := HK2.out.alloc (.cells #[.int .i64 p1, .int .i64 p2, .int .i64 p3] 128)
      have hz3 := Blk.new w2 128 [.int .i64 p1, .int .i64 p2, .int .i64 p3]
      have hgz : g ≠ w2.heap.size := by have h1 := HBS.out.lt; have h2 := HK2.out.size; omega
      rw [← hzb] at hz3 hgz ⊢
      have HX6 := Lib.hid (And.intro (hk3.blk HBS.out (fun h => h)) (And.intro hz3 hk3))
      clear hk3 hz3 hzb z0 z1 z2 HK2
      obtain ⟨t1, ht1⟩ : ∃ t, t = 1 + a1 := ⟨_, rfl⟩
      obtain ⟨t2, ht2⟩ : ∃ t, t = by' + a2 := ⟨_, rfl⟩
      rw [← ht1, ← ht2] at HX6
      have HT := Lib.hid (And.intro ht1 ht2)
      have r1 : (t1 : Int) ≤ 68719476737 := by omega
      have r2 : (t2 : Int) ≤ 4398046511104 := by omega
      have r3 : (a3 : Int) ≤ 512 := by omega
      have r4 : (p1 : Int) ≤ 68719476736 := by omega
      have r5 : (p2 : Int) ≤ 4398046511104 := by omega
      have r6 : (p3 : Int) ≤ 512 := by omega
      clear ht1 ht2 hsm hsm2
      refine gen_codeF (fun W => Blk W g 128 [.int .i64 t1, .int .i64 t2, .int .i64 a3] ∧ Blk W zb 128 [.int .i64 p1, .int .i64 p2, .int .i64 p3] ∧ Keeps (fun _ => False) wr W) HX6.out ?_
      clear HX6
      rintro w6 ⟨hb6, hz6, hk6⟩
      have HB6 := Lib.hid hb6
      have HZ6 := Lib.hid hz6
      have HK6 := Lib.hid hk6
      have d0 := hb6.cell 0
      have e0 := hb6.frozen 0
      have y0 := hz6.cell 0
      clear hb6 hz6 hk6
      have hb7 := HB6.out.set_ 0 (.int .i64 ((t1 : Int) + p1))
      have hz7 := HZ6.out.far (p := ⟨g, 0, none⟩) (Ne.symm hgz) (.int .i64 ((t1 : Int) + p1))
      have d1 := hb7.cell 1
      have e1 := hb7.frozen 1
      have y1 := hz7.cell 1
      have hb8 := hb7.set_ 1 (.int .i64 ((t2 : Int) + p2))
      have hz8 := hz7.far (p := ⟨g, 1, none⟩) (Ne.symm hgz) (.int .i64 ((t2 : Int) + p2))
      have d2 := hb8.cell 2
      have e2 := hb8.frozen 2
      have y2 := hz8.cell 2
      have HB8 := Lib.hid hb8
      have HK8 := Lib.hid ((HK6.out.mono (G := fun i => i = g) (fun _ _ h => h.elim)).setCell (p := ⟨g, 0, none⟩) (.inl rfl) (.int .i64 ((t1 : Int) + p1)) |>.setCell (p := ⟨g, 1, none⟩) (.inl rfl) (.int .i64 ((t2 : Int) + p2)))
      clear hb7 hz7 hb8 hz8
      rcases Nat.lt_or_ge a3 p3 with hle | hle
      rotate_left
      · have hle' : (p3 : Int) ≤ a3 := by omega
        have HK9 := Lib.hid (HK8.out.setCell (p := ⟨g, 2, none⟩) (.inl rfl) (.int .i64 a3))
        have HLE := Lib.hid hle
        clear hle
        go_wp2
        go_roundg (n - (i + 1))
        case measure => rw [HGK.out]; omega
        case rel =>
          refine ⟨i + 1, by omega, by go_num, rfl, Lib.hid ⟨HS.out.keep.trans HK9.out (fun k hk e => by have := HS.out.lo; omega), HS.out.lo, HK9.out.blk HS.out.res (fun e => HS.out.ne e.symm), ?_, HS.out.ne⟩⟩
          have hb := HB8.out.set_ 2 (.int .i64 (a3 : Int))
          rw [sums_take HX.out]
          obtain ⟨e1, e2, e3⟩ := HA.out
          obtain ⟨e4, e5, e6⟩ := HP.out
          rw [← e1, ← e2, ← e3, ← e4, ← e5, ← e6]
          have x1 : ((1 + (a1 + p1) : Nat) : Int) = (t1 : Int) + p1 := by rw [HT.out.1]; omega
          have x2 : ((by' + (a2 + p2) : Nat) : Int) = (t2 : Int) + p2 := by rw [HT.out.2]; omega
          have x3 : ((max a3 p3 : Nat) : Int) = (a3 : Int) := by have := HLE.out; omega
          show Blk _ g 128 [.int .i64 ((1 + (a1 + p1) : Nat) : Int), .int .i64 ((by' + (a2 + p2) : Nat) : Int), .int .i64 ((max a3 p3 : Nat) : Int)]
          rw [x1, x2, x3]
          exact hb
      · have hle' : (a3 : Int) < p3 := by omega
        have HK9 := Lib.hid (HK8.out.setCell (p := ⟨g, 2, none⟩) (.inl rfl) (.int .i64 p3))
        have HLE := Lib.hid hle
        clear hle
        go_wp2
        go_roundg (n - (i + 1))
        case measure => rw [HGK.out]; omega
        case rel =>
          refine ⟨i + 1, by omega, by go_num, rfl, Lib.hid ⟨HS.out.keep.trans HK9.out (fun k hk e => by have := HS.out.lo; omega), HS.out.lo, HK9.out.blk HS.out.res (fun e => HS.out.ne e.symm), ?_, HS.out.ne⟩⟩
          have hb := HB8.out.set_ 2 (.int .i64 (p3 : Int))
          rw [sums_take HX.out]
          obtain ⟨e1, e2, e3⟩ := HA.out
          obtain ⟨e4, e5, e6⟩ := HP.out
          rw [← e1, ← e2, ← e3, ← e4, ← e5, ← e6]
          have x1 : ((1 + (a1 + p1) : Nat) : Int) = (t1 : Int) + p1 := by rw [HT.out.1]; omega
          have x2 : ((by' + (a2 + p2) : Nat) : Int) = (t2 : Int) + p2 := by rw [HT.out.2]; omega
          have x3 : ((max a3 p3 : Nat) : Int) = (p3 : Int) := by have := HLE.out; omega
          show Blk _ g 128 [.int .i64 ((1 + (a1 + p1) : Nat) : Int), .int .i64 ((by' + (a2 + p2) : Nat) : Int), .int .i64 ((max a3 p3 : Nat) : Int)]
          rw [x1, x2, x3]
          exact hb
    · obtain rfl : i = n := by omega
      have hbs := HS.out.blk
      rw [List.take_of_length_le (by rw [HLN.out]; exact Nat.le_refl _)] at hbs
      have hsm := HSM.out i
      rw [List.take_of_length_le (by rw [HLN.out]; exact Nat.le_refl _)] at hsm
      obtain ⟨t1, ht1⟩ : ∃ t, t = 1 + (sums L).1 := ⟨_, rfl⟩
      obtain ⟨t2, ht2⟩ : ∃ t, t = by' + (sums L).2.1 := ⟨_, rfl⟩
      obtain ⟨t3, ht3⟩ : ∃ t, t = (sums L).2.2 := ⟨_, rfl⟩
      rw [← ht1, ← ht2, ← ht3] at hbs
      have HT := Lib.hid (And.intro ht1 (And.intro ht2 ht3))
      have r3 : (t3 : Int) ≤ 512 := by omega
      have HB := Lib.hid hbs
      have HS3 := Lib.hid (HS.out)
      have d2 := hbs.cell 2
      have e2 := hbs.frozen 2
      have hb9 := hbs.set_ 2 (.int .i64 ((t3 : Int) + 1))
      have c0 := hb9.cell 0
      have c1 := hb9.cell 1
      have c2 := hb9.cell 2
      have hr9 := HS.out.res.far (p := ⟨g, 2, none⟩) (Ne.symm HS.out.ne) (.int .i64 ((t3 : Int) + 1))
      have f0 := hr9.frozen 0
      have f1 := hr9.frozen 1
      have f2 := hr9.frozen 2
      have HR9 := Lib.hid hr9
      have HB9 := Lib.hid hb9
      have HK9 : Hid (Keeps (fun _ => False) w (wr.setCell ⟨g, 2, none⟩ (.int .i64 ((t3 : Int) + 1)))) := Lib.hid (HS.out.keep.setCell (p := ⟨g, 2, none⟩) (.inr HS.out.lo) _)
      clear hsm ht1 ht2 ht3 hbs hb9 hr9
      clear f0 f1 f2
      go_wp2_with ((with_reducible show wpList _ _ _ (⟨none, Op.store 128 (.tmp 4) _, _, _, _, _⟩ :: _) _ _); refine wpList_store_whole rfl 128 _ _ rfl [.int .i64 t1, .int .i64 t2, .int .i64 ((t3 : Int) + 1)] rfl rfl HR9.out rfl (by kernel_rfl) (by intro u hu; simp only [List.mem_cons, List.not_mem_nil, or_false] at hu; rcases hu with rfl | rfl | rfl <;> rfl) ?_)
      have hres := HR9.out.setRow [.int .i64 t1, .int .i64 t2, .int .i64 ((t3 : Int) + 1)]
      refine bodyPost_ret (results_blk rfl _ _ rfl hres Tryz.underlying128 rfl (by kernel_rfl)) rfl ⟨?_, HK9.out.setRow (.inr (Nat.le_refl _)) _⟩
      obtain ⟨e1, e2, e3⟩ := HT.out
      rw [← e1, ← e2, ← e3]
      rfl
end Go.Proofs.YtdmcioghdindfaaGreat

set_option linter.unusedSimpArgs false
namespace Go.Json
theorem sumN_perm {a b : List Nat} (h : a.Perm b) : sumN a = sumN b := by
  induction h with
  | nil => rfl
  | cons x _ ih => simp [sumN, ih]
  | swap x y l => simp only [sumN]; omega
  | trans _ _ h1 h2 => exact h1.trans h2
theorem maxN_perm {a b : List Nat} (h : a.Perm b) : maxN a = maxN b := by
  induction h with
  | nil => rfl
  | cons x _ ih => simp [maxN, ih]
  | swap x y l => simp only [maxN]; omega
  | trans _ _ h1 h2 => exact h1.trans h2
/-- Keys in an order without two alike rise. -/
theorem keys_rise {ks : List ByteArray} (h : ks.Pairwise fun a b => ¬ ltS b a) (hn : ks.Nodup) (hr : ∀ s ∈ ks, rightS s = true) : ks.Pairwise ltS := by
  induction ks with
  | nil => exact .nil
  | cons a ks ih =>
    have h' := List.pairwise_cons.1 h
    rw [List.nodup_cons] at hn
    refine List.pairwise_cons.2 ⟨fun b hb => ?_, ih h'.2 hn.2 fun s hs => hr s (List.mem_cons_of_mem _ hs)⟩
    rcases ltS_tri (hr a List.mem_cons_self) (hr b (List.mem_cons_of_mem _ hb)) with h1 | h1 | h1
    · exact h1
    · exact absurd (h1 ▸ hb) hn.1
    · exact absurd h1 (h'.1 b hb)
theorem rising_map {l : List (ByteArray × JV)} (h : Rising l) : (l.map (·.1)).Pairwise ltS := List.pairwise_map.2 h
section
variable {ks : List ByteArray} {L : List JV}
theorem zip_fst (hl : ks.length = L.length) : (ks.zip L).map (·.1) = ks := List.map_fst_zip (by omega)
theorem zip_snd (hl : ks.length = L.length) : (ks.zip L).map (·.2) = L := List.map_snd_zip (by omega)
theorem sorted_rising (hl : ks.length = L.length) (hn : ks.Nodup) (hr : ∀ s ∈ ks, rightS s = true) : Rising (sortM (ks.zip L)) :=
  sortM_rising _ (by rw [zip_fst hl]; exact hn) fun p hp => hr p.1 (by rw [← zip_fst hl]; exact List.mem_map.2 ⟨p, hp, rfl⟩)
/-- Sorted keys are the object's. -/
theorem keys_sorted {ks' : List ByteArray} (hl : ks.length = L.length) (hn : ks.Nodup) (hr : ∀ s ∈ ks, rightS s = true) (hp : ks'.Perm ks) (hs : ks'.Pairwise fun a b => ¬ ltS b a) : ks' = (sortM (ks.zip L)).map (·.1) := by
  refine rising_keys (keys_rise hs (hp.nodup_iff.2 hn) fun s h => hr s (hp.mem_iff.1 h)) (rising_map (sorted_rising hl hn hr)) fun x => ?_
  have h2 : ((sortM (ks.zip L)).map (·.1)).Perm ks := by
    have := (sortM_perm (ks.zip L)).map (·.1)
    rwa [zip_fst hl] at this
  rw [hp.mem_iff, h2.mem_iff]
theorem snd_perm (hl : ks.length = L.length) : ((sortM (ks.zip L)).map (·.2)).Perm L := by
  have := (sortM_perm (ks.zip L)).map (·.2)
  rwa [zip_snd hl] at this
theorem fst_perm (hl : ks.length = L.length) : ((sortM (ks.zip L)).map (·.1)).Perm ks := by
  have := (sortM_perm (ks.zip L)).map (·.1)
  rwa [zip_fst hl] at this
/-- Values looked up by sorted keys are the object's. -/
theorem items_sorted {L' : List JV} (hl : ks.length = L.length) (hn : ks.Nodup) (hlen : L'.length = ks.length)
    (h : ∀ (i : Nat) (k : ByteArray), ((sortM (ks.zip L)).map (·.1))[i]? = some k → ∃ (j : Nat) (x : JV), ks[j]? = some k ∧ L[j]? = some x ∧ L'[i]? = some x) : L' = (sortM (ks.zip L)).map (·.2) := by
  apply List.ext_getElem?
  intro i
  have hsl : (sortM (ks.zip L)).length = ks.length := by rw [(sortM_perm _).length_eq, List.length_zip]; omega
  rcases Nat.lt_or_ge i ks.length with hi | hi
  · obtain ⟨p, hp⟩ : ∃ p, (sortM (ks.zip L))[i]? = some p := ⟨_, List.getElem?_eq_getElem (by omega)⟩
    obtain ⟨j, x, h1, h2, h3⟩ := h i p.1 (by rw [List.getElem?_map, hp]; rfl)
    rw [h3, List.getElem?_map, hp]
    have hm : p ∈ ks.zip L := (sortM_perm _).mem_iff.1 (List.mem_of_getElem? hp)
    obtain ⟨j2, hj2⟩ := List.getElem?_of_mem hm
    rw [List.getElem?_zip_eq_some] at hj2
    have hjj : j = j2 := by
      have l1 := (List.getElem?_eq_some_iff.1 h1).1
      have l2 := (List.getElem?_eq_some_iff.1 hj2.1).1
      exact (List.getElem?_inj l1 hn).1 (h1.trans hj2.1.symm)
    subst hjj
    have := h2.symm.trans hj2.2
    injection this with this
    rw [this]
    rfl
  · rw [List.getElem?_eq_none (by omega), List.getElem?_eq_none (by rw [List.length_map]; omega)]
end
end Go.Json
namespace Go.Proofs.YtdmcioghdindfaaGreat
open Go Go.RowKit Go.Aff Go.Json
theorem sums_perm {a b : List JV} (h : a.Perm b) : sums a = sums b := by
  unfold sums
  rw [sumN_perm (h.map _), sumN_perm (h.map _), maxN_perm (h.map _)]
/-- The sizes that the object bears. -/
theorem obj_sizes {ks : List ByteArray} {L : List JV} (hl : ks.length = L.length) : sizeV (mkObj ks L) = [.int .i64 (1 + (sums L).1 : Nat), .int .i64 (sumN (ks.map fun k => k.size) + (sums L).2.1 : Nat), .int .i64 ((sums L).2.2 + 1 : Nat)] := by
  have h1 := sums_perm (snd_perm hl)
  have h2 : sumN (((sortM (ks.zip L)).map (·.1)).map fun k => k.size) = sumN (ks.map fun k => k.size) := sumN_perm ((fst_perm hl).map _)
  rw [← h1, ← h2]
  unfold sizeV
  rw [JV.nodes_eq, JV.bytes_eq, JV.deep_eq]
  rfl
theorem doF_obj_wrong {P : List JV} {s : StepV} (hu : usedF s = true) (hs : s.sort = 6) (hr : s.keys.all rightS = false) : doF P s = .inl 100 := by
  unfold doF
  rw [if_neg (by rw [hu]; decide), if_neg (by omega), if_pos (.inr hr)]
theorem doF_obj {P : List JV} {s : StepV} (hu : usedF s = true) (hs : s.sort = 6) (hr : s.keys.all rightS = true) :
    doF P s = if ¬ s.keys.Nodup then .inl 101 else if P.length < s.keys.length then .inl 102 else if ¬ (mkObj s.keys (P.drop (P.length - s.keys.length))).within then .inl 3
      else .inr (P.take (P.length - s.keys.length) ++ [mkObj s.keys (P.drop (P.length - s.keys.length))]) := by
  obtain ⟨u1, u2, _, _, _, _⟩ := used_parts hu
  have ht := right_empty (u1 (by omega))
  have hc := u2 (by omega)
  have hz : s.count.toNat + s.keys.length = s.keys.length := by rw [hc]; simp
  have hm : ∀ L, mkV s L = mkObj s.keys L := fun L => by simp [mkV, hs]
  unfold doF
  rw [if_neg (by rw [hu]; decide), if_neg (by omega), if_neg (by rw [ht, hr]; simp), hz, hm]
theorem textAt {w : World} {A : Option Addr} {n : Nat} {ks : List ByteArray} (h : Rd w A n (ks.map .string)) {j : Nat} (hj : j < n) : ∃ g o s, A = some ⟨g, o, none⟩ ∧ ks[j]? = some s ∧ w.cell? ⟨g, o + j, none⟩ = some (.string s) := by
  obtain ⟨g, o, e, q⟩ := h.2 (by omega)
  have hl : ks.length = n := by simpa using h.1
  obtain ⟨s, hs⟩ : ∃ s, ks[j]? = some s := ⟨_, List.getElem?_eq_getElem (by omega)⟩
  refine ⟨g, o, s, e, hs, ?_⟩
  rw [q j hj, List.getElem?_map, hs]; rfl
def byF (ks : List ByteArray) : Nat := sumN (ks.map fun k => k.size)
theorem byF_take {ks : List ByteArray} {i : Nat} {s : ByteArray} (h : ks[i]? = some s) : byF (ks.take (i + 1)) = byF (ks.take i) + s.size := by
  unfold byF
  rw [List.take_add_one, h]
  simp [sumN_append, sumN]
theorem byF_le (ks : List ByteArray) (i : Nat) : byF (ks.take i) ≤ byF ks := by
  have : byF ks = byF (ks.take i) + byF (ks.drop i) := by
    unfold byF
    rw [← sumN_append, ← List.map_append, List.take_append_drop]
  omega
theorem size_le {ks : List ByteArray} {s : ByteArray} (h : s ∈ ks) : s.size ≤ byF ks := by
  induction ks with
  | nil => cases h
  | cons a ks ih =>
    have e : byF (a :: ks) = a.size + byF ks := rfl
    rcases List.mem_cons.1 h with rfl | h
    · omega
    · have := ih h; omega
end Go.Proofs.YtdmcioghdindfaaGreat

set_option linter.unusedSimpArgs false
namespace Go.Aff
open Go Go.RowKit
/-- As Keeps; and no fewer draws are taken. -/
structure Kp (F : Nat → Prop) (w w' : World) : Prop where
  keeps : Keeps F w w'
  drawn : w.drawn ≤ w'.drawn
section
variable {F G : Nat → Prop} {w w1 w2 : World}
theorem Kp.refl (F : Nat → Prop) (w : World) : Kp F w w := ⟨Keeps.refl F w, Nat.le_refl _⟩
theorem Kp.trans (h : Kp F w w1) (k : Kp G w1 w2) (hG : ∀ i, i < w.heap.size → G i → F i) : Kp F w w2 := ⟨h.keeps.trans k.keeps hG, Nat.le_trans h.drawn k.drawn⟩
theorem Kp.mono (h : Kp F w w1) (hG : ∀ i, i < w.heap.size → F i → G i) : Kp G w w1 := ⟨h.keeps.mono hG, h.drawn⟩
theorem Kp.drewN (h : Kp F w w1) (n : Nat) : Kp F w (w1.drewN n) := ⟨h.keeps.drewN n, Nat.le_trans h.drawn (Nat.le_add_right _ _)⟩
theorem Kp.drew (h : Kp F w w1) : Kp F w w1.drew := ⟨h.keeps.drew, Nat.le_trans h.drawn (Nat.le_add_right _ 1)⟩
theorem Kp.alloc (h : Kp F w w1) (o : Obj) : Kp F w (w1.alloc o) := ⟨h.keeps.alloc o, h.drawn⟩
theorem Kp.setCell (h : Kp F w w1) {p : Addr} (hp : F p.block ∨ w.heap.size ≤ p.block) (u : Value) : Kp F w (w1.setCell p u) := ⟨h.keeps.setCell hp u, h.drawn⟩
theorem Kp.size (h : Kp F w w1) : w.heap.size ≤ w1.heap.size := h.keeps.size
theorem Kp.blk {g : Nat} {t : TypeId} {cs : List Value} (h : Kp F w w1) (hb : Blk w g t cs) (hn : ¬ F g) : Blk w1 g t cs := h.keeps.blk hb hn
theorem Rd.keepK {A : Option Addr} {n : Nat} {xs : List Value} (h : Rd w A n xs) (hk : Kp F w w1) (ho : Out F A n) : Rd w1 A n xs := h.keep hk.keeps ho
theorem cell_keepK {w w' : World} (hk : Kp (fun _ => False) w w') {p : Addr} {v : Value} (h : w.cell? p = some v) : w'.cell? p = some v := cell_keep hk.keeps h
theorem bytesWorld_kp (w : World) (e : TypeId) (s : ByteArray) : Kp (fun _ => False) w (Lib.bytesWorld w e s) :=
  ⟨⟨rfl, rfl, rfl, by rw [Lib.bytesWorld_size]; omega, fun i hi _ => Lib.bytesWorld_at_old w e s i hi⟩, Nat.le_succ _⟩
/-- What only reads and lays: the world, some draws on, some blocks more. -/
theorem Kp.grows (h : Kp (fun _ => False) w w1) : ∃ q os, w1 = Go.Sort.grow (w.drewN q) os := by
  refine ⟨w1.drawn - w.drawn, w1.heap.extract w.heap.size w1.heap.size, ?_⟩
  have hs := h.keeps.size
  have hh : w1.heap = w.heap ++ w1.heap.extract w.heap.size w1.heap.size := by
    apply Array.ext_getElem?
    intro i
    rw [Array.getElem?_append]
    by_cases hi : i < w.heap.size
    · rw [if_pos hi]; exact h.keeps.block i hi (fun h => h)
    · rw [if_neg hi, Array.getElem?_extract]
      by_cases h2 : i - w.heap.size < min w1.heap.size w1.heap.size - w.heap.size
      · rw [if_pos h2]; congr 1; omega
      · rw [if_neg h2]; exact Array.getElem?_eq_none (by omega)
  have hd : w.drawn + (w1.drawn - w.drawn) = w1.drawn := by have := h.drawn; omega
  have e1 := h.keeps.os
  have e2 := h.keeps.tape
  have e3 := h.keeps.output
  cases w1 with
  | mk heap1 tape1 drawn1 os1 output1 =>
  cases w with
  | mk heap tape drawn os output =>
  simp only at hh hd e1 e2 e3
  subst e1 e2 e3
  show World.mk _ _ _ _ _ = World.mk (heap ++ _) _ _ _ _
  congr 1
  exact hd.symm
end
end Go.Aff

set_option linter.unusedSimpArgs false
namespace Go.Proofs.YtdmcioghdindfaaGreat
open Go Go.RowKit Go.Aff Go.Utf
def formV (f : Int × Int × Int) : List Value := [.int .i64 f.1, .int .u8 f.2.1, .int .u8 f.2.2]
set_option maxHeartbeats 1000000 in
set_option maxRecDepth 100000 in
theorem form_any (w : World) (c : Int) : Calls Tryz.prog 115 #[.int .u8 c] w fun e w' => e = .returned (.agg (formV (formF c)).toArray) ∧ Kp (fun _ => False) w w' := by
  have hb := Blk.new w 207 [.int .i64 0, .int .u8 0, .int .u8 0]
  have f0 := hb.frozen 0
  have f1 := hb.frozen 1
  have f2 := hb.frozen 2
  have HK := Lib.hid fun vs => (Kp.refl (fun _ => False) w).alloc (.cells vs 207)
  have HR := Lib.hid fun x y z => Blk.new w 207 [.int .i64 x, .int .u8 y, .int .u8 z]
  clear hb
  by_cases h0 : c < 128
  · have HF : Hid (formF c = (1, 0, 0)) := Lib.hid (by simp [formF, h0])
    go_enter Tryz.func115, Tryz.ntmps115
    go_wp2
    rw [HF.out]
    exact bodyPost_ret (results_blk rfl _ _ rfl (HR.out 1 0 0) Tryz.underlying207 rfl (by kernel_rfl)) rfl ⟨rfl, HK.out _⟩
  · skip
    by_cases h1 : c < 194
    · have HF : Hid (formF c = (0, 0, 0)) := Lib.hid (by simp [formF, h0, h1])
      go_enter Tryz.func115, Tryz.ntmps115
      go_wp2
      rw [HF.out]
      exact bodyPost_ret (results_blk rfl _ _ rfl (HR.out 0 0 0) Tryz.underlying207 rfl (by kernel_rfl)) rfl ⟨rfl, HK.out _⟩
    · skip
      by_cases h2 : c < 224
      · have HF : Hid (formF c = (2, 128, 191)) := Lib.hid (by simp [formF, h0, h1, h2])
        go_enter Tryz.func115, Tryz.ntmps115
        go_wp2
        rw [HF.out]
        exact bodyPost_ret (results_blk rfl _ _ rfl (HR.out 2 128 191) Tryz.underlying207 rfl (by kernel_rfl)) rfl ⟨rfl, HK.out _⟩
      · skip
        by_cases h3 : c = 224
        · subst h3
          have HF : Hid (formF 224 = (3, 160, 191)) := Lib.hid (by decide)
          go_enter Tryz.func115, Tryz.ntmps115
          go_wp2
          rw [HF.out]
          exact bodyPost_ret (results_blk rfl _ _ rfl (HR.out 3 160 191) Tryz.underlying207 rfl (by kernel_rfl)) rfl ⟨rfl, HK.out _⟩
        · have e3 : (c == 224) = false := by simp [h3]
          by_cases h4 : c = 237
          · subst h4
            have HF : Hid (formF 237 = (3, 128, 159)) := Lib.hid (by decide)
            go_enter Tryz.func115, Tryz.ntmps115
            go_wp2
            rw [HF.out]
            exact bodyPost_ret (results_blk rfl _ _ rfl (HR.out 3 128 159) Tryz.underlying207 rfl (by kernel_rfl)) rfl ⟨rfl, HK.out _⟩
          · have e4 : (c == 237) = false := by simp [h4]
            by_cases h5 : c < 240
            · have HF : Hid (formF c = (3, 128, 191)) := Lib.hid (by simp [formF, h0, h1, h2, h3, h4, h5])
              go_enter Tryz.func115, Tryz.ntmps115
              go_wp2
              rw [HF.out]
              exact bodyPost_ret (results_blk rfl _ _ rfl (HR.out 3 128 191) Tryz.underlying207 rfl (by kernel_rfl)) rfl ⟨rfl, HK.out _⟩
            · skip
              by_cases h6 : c = 240
              · subst h6
                have HF : Hid (formF 240 = (4, 144, 191)) := Lib.hid (by decide)
                go_enter Tryz.func115, Tryz.ntmps115
                go_wp2
                rw [HF.out]
                exact bodyPost_ret (results_blk rfl _ _ rfl (HR.out 4 144 191) Tryz.underlying207 rfl (by kernel_rfl)) rfl ⟨rfl, HK.out _⟩
              · have e6 : (c == 240) = false := by simp [h6]
                by_cases h7 : c < 244
                · have HF : Hid (formF c = (4, 128, 191)) := Lib.hid (by simp [formF, h0, h1, h2, h3, h4, h5, h6, h7])
                  go_enter Tryz.func115, Tryz.ntmps115
                  go_wp2
                  rw [HF.out]
                  exact bodyPost_ret (results_blk rfl _ _ rfl (HR.out 4 128 191) Tryz.underlying207 rfl (by kernel_rfl)) rfl ⟨rfl, HK.out _⟩
                · skip
                  by_cases h8 : c = 244
                  · subst h8
                    have HF : Hid (formF 244 = (4, 128, 143)) := Lib.hid (by decide)
                    go_enter Tryz.func115, Tryz.ntmps115
                    go_wp2
                    rw [HF.out]
                    exact bodyPost_ret (results_blk rfl _ _ rfl (HR.out 4 128 143) Tryz.underlying207 rfl (by kernel_rfl)) rfl ⟨rfl, HK.out _⟩
                  · have e8 : (c == 244) = false := by simp [h8]
                    have HF : Hid (formF c = (0, 0, 0)) := Lib.hid (by simp [formF, h0, h1, h2, h3, h4, h5, h6, h7, h8])
                    go_enter Tryz.func115, Tryz.ntmps115
                    go_wp2
                    rw [HF.out]
                    exact bodyPost_ret (results_blk rfl _ _ rfl (HR.out 0 0 0) Tryz.underlying207 rfl (by kernel_rfl)) rfl ⟨rfl, HK.out _⟩
set_option maxHeartbeats 1000000 in
set_option maxRecDepth 100000 in
theorem may_any (w : World) (f : Int × Int × Int) (i c : Int) : Calls Tryz.prog 116 #[.agg (formV f).toArray, .int .i64 i, .int .u8 c] w fun e w' => e = .returned (.bool (mayF f i c)) ∧ Kp (fun _ => False) w w' := by
  obtain ⟨n, lo, hi⟩ := f
  have hb := Blk.new w 207 [.int .i64 n, .int .u8 lo, .int .u8 hi]
  have c1 := hb.cell 1
  have c2 := hb.cell 2
  have HK := Lib.hid ((Kp.refl (fun _ => False) w).alloc (.cells #[.int .i64 n, .int .u8 lo, .int .u8 hi] 207))
  clear hb
  show Calls _ _ #[.agg #[.int .i64 n, .int .u8 lo, .int .u8 hi], .int .i64 i, .int .u8 c] w _
  by_cases h0 : i = 1
  · subst h0
    by_cases h1 : lo ≤ c
    · have h1d : decide (lo ≤ c) = true := by simp [h1]
      by_cases h2 : c ≤ hi
      · have h2d : decide (c ≤ hi) = true := by simp [h2]
        have HF : Hid (mayF (n, lo, hi) 1 c = true) := Lib.hid (by simp [mayF, if_true, h1, h2])
        go_enter Tryz.func116, Tryz.ntmps116
        go_wp2
        go_ret
        exact ⟨by rw [HF.out]; rfl, HK.out⟩
      · have h2d : decide (c ≤ hi) = false := by simp [h2]
        have HF : Hid (mayF (n, lo, hi) 1 c = false) := Lib.hid (by simp [mayF, if_true, h2])
        go_enter Tryz.func116, Tryz.ntmps116
        go_wp2
        go_ret
        exact ⟨by rw [HF.out]; rfl, HK.out⟩
    · have h1d : decide (lo ≤ c) = false := by simp [h1]
      have HF : Hid (mayF (n, lo, hi) 1 c = false) := Lib.hid (by simp [mayF, if_true, h1])
      go_enter Tryz.func116, Tryz.ntmps116
      go_wp2
      go_ret
      exact ⟨by rw [HF.out]; rfl, HK.out⟩
  · have e0 : (i == 1) = false := by simp [h0]
    by_cases h1 : 128 ≤ c
    · have h1d : decide (128 ≤ c) = true := by simp [h1]
      by_cases h2 : c ≤ 191
      · have h2d : decide (c ≤ 191) = true := by simp [h2]
        have HF : Hid (mayF (n, lo, hi) i c = true) := Lib.hid (by simp [mayF, h0, h1, h2])
        go_enter Tryz.func116, Tryz.ntmps116
        go_wp2
        go_ret
        exact ⟨by rw [HF.out]; rfl, HK.out⟩
      · have h2d : decide (c ≤ 191) = false := by simp [h2]
        have HF : Hid (mayF (n, lo, hi) i c = false) := Lib.hid (by simp [mayF, h0, h2])
        go_enter Tryz.func116, Tryz.ntmps116
        go_wp2
        go_ret
        exact ⟨by rw [HF.out]; rfl, HK.out⟩
    · have h1d : decide (128 ≤ c) = false := by simp [h1]
      have HF : Hid (mayF (n, lo, hi) i c = false) := Lib.hid (by simp [mayF, h0, h1])
      go_enter Tryz.func116, Tryz.ntmps116
      go_wp2
      go_ret
      exact ⟨by rw [HF.out]; rfl, HK.out⟩
end Go.Proofs.YtdmcioghdindfaaGreat
