/-
  WALKS: Append of one entry; the statement BookLong.
-/
import Derived.Test.YtknecjjdegngfaaDoorAppendLW
set_option linter.unusedSimpArgs false
namespace Go.Proofs.YtknecjjdegngfaaDoor
open Go Go.RowKit Go.Sha Go.Aff Go.Book
theorem append_one (w0 : World) (hG : Glob w0) (wr : World) (p : Nat) (u l : Value) (es : List (List Int)) (y : Int) (h : BookAt wr p u l es y) (hk0 : Keeps (fun _ => False) w0 wr) (hfoot : ∀ i, FootB p u l i → w0.heap.size ≤ i)
    (A : Option Addr) (n c : Nat) (bs : List Int) (hn : bs.length = n) (hr : Rd wr A n (vb bs)) (ho : Out (FootB p u l) A n) (hb : IsBytes bs) (hc : n ≤ c) (hm : n ≤ 1048576) (hy : 0 ≤ y) (hsum : y + n ≤ 16777216) (hcount : es.length + 1 ≤ 65536) :
    Calls Tryd.prog 33 #[.pointer (some ⟨p, 0, none⟩), .slice (some ⟨wr.heap.size, 0, none⟩) 1 1] (wr.alloc (.cells #[.slice A n c] 22)) fun e w' => e = .returned (.tuple #[.int .i64 (es.length : Nat), .nilIface]) ∧ ∃ u' l', BookAt w' p u' l' (es ++ [bs]) (y + n) ∧ Keeps (fun _ => False) w0 w' ∧ (∀ i, FootB p u' l' i → FootB p u l i ∨ wr.heap.size ≤ i) ∧ Keeps (FootB p u l) wr w' := by
  have hp := parts_one (FootB p u l) wr 22 A n c bs h.lt hn hr ho hb hc (by omega)
  have hk1 : Keeps (fun _ => False) wr (wr.alloc (.cells #[.slice A n c] 22)) := (Keeps.refl _ _).alloc _
  have hg := hG.keep (hk0.trans hk1 (fun _ _ h => h)) (fun _ h => h.elim)
  have h2 : 2 ≤ w0.heap.size := hG.lt
  have hA := Append_ok (wr.alloc (.cells #[.slice A n c] 22)) hg p u l es y (h.keep hk1) (fun i hi => by have := hfoot i hi; omega) (some ⟨wr.heap.size, 0, none⟩) 1 [bs] hp (by intro x hx; rw [List.mem_singleton.1 hx, hn]; exact hm) hy (by simp [hn]; exact hsum) (by simpa using hcount)
  have e1 : ([bs] : List (List Int)).flatten.length = n := by simp [hn]
  rw [e1] at hA
  refine hA.mono fun e w' ⟨he, u', l', h3, h4, h5, h6⟩ => ⟨he, u', l', h3, (hk0.trans hk1 (fun _ _ h => h)).trans h4 (fun i hi hf => by have := hfoot i hf; omega), ?_, (hk1.mono (fun _ _ h => h.elim)).trans h4 (fun _ _ h => h)⟩
  intro i hi
  rcases hi with hi | hi | hi
  · exact .inl (.inl hi)
  · rcases h5 i hi with h9 | h9
    · exact .inl (.inr (.inl h9))
    · simp at h9; exact .inr (by omega)
  · rcases h6 i hi with h9 | h9
    · exact .inl (.inr (.inr h9))
    · simp at h9; exact .inr (by omega)
theorem append_one_long (wr : World) (p : Nat) (u l : Value) (es : List (List Int)) (y : Int) (h : BookAt wr p u l es y)
    (A : Option Addr) (n c : Nat) (bs : List Int) (hn : bs.length = n) (hr : Rd wr A n (vb bs)) (hb : IsBytes bs) (hc : n ≤ c) (hm : n ≤ 2097152) (hy : 0 ≤ y) (hy2 : y ≤ 16777216) (hes : es.length ≤ 65536) (hlong : 1048576 < n ∨ 16777216 < y + n ∨ 65536 < es.length + 1) :
    Calls Tryd.prog 33 #[.pointer (some ⟨p, 0, none⟩), .slice (some ⟨wr.heap.size, 0, none⟩) 1 1] (wr.alloc (.cells #[.slice A n c] 22)) fun e w' => e = .returned (.tuple #[.int .i64 0, errno 3]) ∧ w' = wr.alloc (.cells #[.slice A n c] 22) := by
  have hp := parts_one (fun _ => False) wr 22 A n c bs (fun _ h => h.elim) hn hr (no_out _ _) hb hc (by omega)
  have hk1 : Keeps (fun _ => False) wr (wr.alloc (.cells #[.slice A n c] 22)) := (Keeps.refl _ _).alloc _
  have e1 : ([bs] : List (List Int)).flatten.length = n := by simp [hn]
  exact Append_long (wr.alloc (.cells #[.slice A n c] 22)) p u l es y (h.keep hk1) (some ⟨wr.heap.size, 0, none⟩) 1 [bs] hp hy hy2 hes (by simp) (by rw [e1]; omega) (by
    rw [e1]
    rcases hlong with h9 | h9 | h9
    · exact .inl ⟨bs, by simp, by omega⟩
    · exact .inr (.inl h9)
    · exact .inr (.inr (by simpa using h9)))
theorem foot_new {p i : Nat} (h : FootB p (.slice none 0 0) (.slice none 0 0) i) : i = p := by
  rcases h with h | h | h
  · exact h
  · cases h
  · cases h
theorem flat_nil (n : Nat) : (List.replicate n ([] : List Int)).flatten.length = 0 := by simp
theorem parts_nil (F : Nat → Prop) (wr : World) (g n : Nat) (ho : wr.ownsRow 0 22 1 (.slice (some ⟨g, 0, none⟩) n n) n (List.replicate n (.slice none 0 0))) (hg : ¬ F g) : RdPartsO F wr (some ⟨g, 0, none⟩) (List.replicate n []) := by
  refine ⟨List.replicate n (.slice none 0 0), ?_, ?_, ?_⟩
  · rw [List.length_replicate]; exact Rd.of_own ho
  · intro _ ad e; injection e with e; subst e; exact hg
  · intro i bs hi
    have h1 := List.getElem?_eq_some_iff.1 hi
    obtain ⟨h1, h2⟩ := h1
    rw [List.length_replicate] at h1
    have : bs = [] := by simpa using h2.symm
    subst this
    refine ⟨none, 0, ?_, Rd.nil _ _, (fun hn => absurd hn (by simp)), (by intro x hx; cases hx), by simp, by simp⟩
    rw [List.getElem?_replicate, if_pos h1]
    rfl
set_option maxRecDepth 100000 in
set_option maxHeartbeats 8000000 in
/-- As many entries as may be, and one more. -/
theorem many_max (w : World) (hG : Glob w) (N : Nat) (hN : N = 65536) : Calls Tryd.prog 17 #[.int .i64 N] w fun e w' => e = .returned (.bool true) ∧ Keeps (fun _ => False) w w' := by
  have h1 : ¬ (65536 : Int) < (N : Int) := by omega
  have HN := Lib.hid hN
  have HG := Lib.hid hG
  have HB := Lib.hid (bnew_any w)
  clear hN hG
  go_enter Tryd.func17, Tryd.ntmps17
  have tk0 : True := trivial
  have tk1 : True := trivial
  have tk2 : True := trivial
  go_wp2_with (first
    | (go_at_call 41; refine HB.out.mono ?_; rintro e w1 ⟨rfl, hb1, hk1⟩; have HB1 := Lib.hid hb1; have HK1 := Lib.hid hk1; clear hb1 hk1)
    | ((with_reducible show wpList _ _ _ (⟨some 11, _, _, _, _, _⟩ :: _) _ _); refine wpList_makeN _ rfl _ _ 26 rfl 22 (.slice none 0 0) 24 Tryd.underlying26 infoRows rfl .i64 .i64 N N N rfl rfl rfl rfl (by have := HN.out; omega) (by have := HN.out; simp only [maxLen]; omega) ?_; intro w2 ho2 hg2; have hk12 : Keeps (fun _ => False) w1 w2 := (Keeps.refl _ _).trans (Keeps.of_grown hg2) (fun g _ hb => by simp at hb); have hp2 := parts_nil (FootB w.heap.size (.slice none 0 0) (.slice none 0 0)) w2 w1.heap.size N ho2 (fun hf => by { have h8 := foot_new hf; have := HB1.out.1.lt; omega }); have ha := Append_ok w2 (HG.out.keep (HK1.out.trans hk12 (fun _ _ h => h)) (fun _ h => h.elim)) w.heap.size (.slice none 0 0) (.slice none 0 0) [] 0 (HB1.out.keep hk12) (fun i hf => by { have h8 := foot_new hf; have := HG.out.lt; omega }) _ N _ hp2 (by { intro x hx; rw [List.eq_of_mem_replicate hx]; simp }) (by omega) (by rw [flat_nil]; omega) (by { have := HN.out; simp; omega }); rw [flat_nil, List.length_replicate, List.nil_append] at ha; have HA := Lib.hid ha; have HK2 := Lib.hid (HK1.out.trans hk12 (fun _ _ h => h)); clear ho2 hg2 hk12 hp2 ha)
    | (go_at_call 33; have _t := tk0; clear tk0; refine HA.out.mono ?_; rintro e w3 ⟨rfl, u3, l3, hb3, hk3, _, _⟩; have HB3 := Lib.hid hb3; have HK3 := Lib.hid (HK2.out.trans hk3 (fun i hi hf => by { have h8 := foot_new hf; omega })); clear hb3 hk3)
    | (go_at_call 39; have _t := tk1; clear tk1; refine (size_any w3 w.heap.size u3 l3 _ _ HB3.out).mono ?_; rw [List.length_replicate]; rintro e w4 ⟨rfl, rfl⟩; have ha2 := append_one_long w4 w.heap.size u3 l3 _ _ HB3.out none 0 0 [] rfl (Rd.nil _ _) (fun x hx => by cases hx) (Nat.le_refl _) (by omega) (by omega) (by omega) (by { have := HN.out; simp; omega }) (.inr (.inr (by { have := HN.out; simp; omega }))); have HA2 := Lib.hid ha2; have HB4 := Lib.hid (HB3.out.keep ((Keeps.refl (fun _ => False) w4).alloc (.cells #[.slice none 0 0] 22))); have HK4 := Lib.hid (HK3.out.alloc (.cells #[.slice none 0 0] 22)); clear ha2)
    | (go_at_call 33; refine HA2.out.mono ?_; rintro e w5 ⟨rfl, rfl⟩)
    | (go_at_call 22; refine (tells_errno _ 3 rfl).mono ?_; rintro e w6 ⟨rfl, hk6⟩; have HB6 := Lib.hid (HB4.out.keep hk6); have HK6 := Lib.hid (HK4.out.trans hk6 (fun _ _ h => h)); clear hk6)
    | (go_at_call 39; refine (size_any w6 w.heap.size u3 l3 _ _ HB6.out).mono ?_; rw [List.length_replicate]; rintro e w7 ⟨rfl, rfl⟩))
  go_ret
  exact ⟨rfl, HK6.out⟩
set_option maxRecDepth 100000 in
set_option maxHeartbeats 8000000 in
/-- One entry too many at once. -/
theorem many_over (w : World) (N : Nat) (hN : N = 65537) : Calls Tryd.prog 17 #[.int .i64 N] w fun e w' => e = .returned (.bool true) ∧ Keeps (fun _ => False) w w' := by
  have h1 : (65536 : Int) < (N : Int) := by omega
  have HN := Lib.hid hN
  have HB := Lib.hid (bnew_any w)
  clear hN
  go_enter Tryd.func17, Tryd.ntmps17
  go_wp2_with (first
    | (go_at_call 41; refine HB.out.mono ?_; rintro e w1 ⟨rfl, hb1, hk1⟩; have HB1 := Lib.hid hb1; have HK1 := Lib.hid hk1; clear hb1 hk1)
    | ((with_reducible show wpList _ _ _ (⟨some 11, _, _, _, _, _⟩ :: _) _ _); refine wpList_makeN _ rfl _ _ 26 rfl 22 (.slice none 0 0) 24 Tryd.underlying26 infoRows rfl .i64 .i64 N N N rfl rfl rfl rfl (by have := HN.out; omega) (by have := HN.out; simp only [maxLen]; omega) ?_; intro w2 ho2 hg2; have hk12 : Keeps (fun _ => False) w1 w2 := (Keeps.refl _ _).trans (Keeps.of_grown hg2) (fun g _ hb => by simp at hb); have hp2 := parts_nil (fun _ => False) w2 w1.heap.size N ho2 (fun h => h); have ha := Append_long w2 w.heap.size (.slice none 0 0) (.slice none 0 0) [] 0 (HB1.out.keep hk12) _ N _ hp2 (by omega) (by omega) (by simp) (by { have := HN.out; rw [List.length_replicate]; omega }) (by rw [flat_nil]; omega) (.inr (.inr (by { have := HN.out; rw [List.length_replicate]; simp; omega }))); rw [List.length_replicate] at ha; have HA := Lib.hid ha; have HB2 := Lib.hid (HB1.out.keep hk12); have HK2 := Lib.hid (HK1.out.trans hk12 (fun _ _ h => h)); clear ho2 hg2 hk12 hp2 ha)
    | (go_at_call 33; refine HA.out.mono ?_; rintro e w3 ⟨rfl, rfl⟩)
    | (go_at_call 22; refine (tells_errno _ 3 rfl).mono ?_; rintro e w6 ⟨rfl, hk6⟩; have HB6 := Lib.hid (HB2.out.keep hk6); have HK6 := Lib.hid (HK2.out.trans hk6 (fun _ _ h => h)); clear hk6)
    | (go_at_call 39; refine (size_any w6 w.heap.size _ _ _ _ HB6.out).mono ?_; rintro e w7 ⟨rfl, rfl⟩))
  go_ret
  exact ⟨rfl, HK6.out⟩
/-- The book of the loop: k entries of M bytes. -/
def GreatAt (w wr : World) (g M : Nat) (k : Nat) : Prop :=
  ∃ u l, BookAt wr w.heap.size u l (List.replicate k (List.replicate M 0)) ((k * M : Nat) : Int) ∧ Keeps (fun _ => False) w wr ∧ (∀ i, FootB w.heap.size u l i → w.heap.size ≤ i ∧ i ≠ g) ∧ Rd wr (some ⟨g, 0, none⟩) (M + 1) (vb (List.replicate (M + 1) 0))
theorem zeros_bytes (n : Nat) : IsBytes (List.replicate n 0) := fun x hx => by have := List.eq_of_mem_replicate hx; omega
theorem zeros_rd {W : World} {g M : Nat} (h : Rd W (some ⟨g, 0, none⟩) (M + 1) (vb (List.replicate (M + 1) 0))) : Rd W (some ⟨g, 1, none⟩) M (vb (List.replicate M 0)) ∧ Rd W (some ⟨g, 0, none⟩) 1 (vb [0]) := by
  have h1 := h.cut (k := 1) (cap := M + 2) (by omega) (by omega)
  have h2 := h.take (k := 1) (by omega)
  rw [if_neg (by omega)] at h1
  constructor
  · simpa [vb, Addr.add] using h1
  · simpa [vb, List.take_replicate] using h2
/-- One more entry of M bytes. -/
theorem great_step (w : World) (hG : Glob w) (wr : World) (g M k : Nat) (hM : M = 1048576) (hk : k + 1 ≤ 16) (h : GreatAt w wr g M k) (hg : g < wr.heap.size) :
    Calls Tryd.prog 33 #[.pointer (some ⟨w.heap.size, 0, none⟩), .slice (some ⟨wr.heap.size, 0, none⟩) 1 1] (wr.alloc (.cells #[.slice (some ⟨g, 1, none⟩) M M] 22)) fun e w' => e = .returned (.tuple #[.int .i64 k, .nilIface]) ∧ GreatAt w w' g M (k + 1) ∧ g < w'.heap.size := by
  obtain ⟨u, l, hb, hkw, hf, hr⟩ := h
  have hz := (zeros_rd hr).1
  have hfit : ((k * M : Nat) : Int) + (M : Nat) ≤ 16777216 := by subst hM; omega
  have ha := append_one w hG wr w.heap.size u l _ _ hb hkw (fun i hi => (hf i hi).1) (some ⟨g, 1, none⟩) M M (List.replicate M 0) (by simp) hz (fun _ ad e hx => by injection e with e; subst e; exact (hf _ hx).2 rfl) (zeros_bytes M) (Nat.le_refl _) (by omega) (by omega) hfit (by rw [List.length_replicate]; omega)
  refine ha.mono fun e w' ⟨he, u', l', h1, h2, h3, h4⟩ => ⟨by rw [he, List.length_replicate], ⟨u', l', ?_, h2, ?_, ?_⟩, Nat.lt_of_lt_of_le hg h4.size⟩
  · have e1 : List.replicate k (List.replicate M (0 : Int)) ++ [List.replicate M 0] = List.replicate (k + 1) (List.replicate M 0) := by rw [List.replicate_succ']
    have e2 : ((k * M : Nat) : Int) + (M : Nat) = (((k + 1) * M : Nat) : Int) := by rw [Nat.succ_mul]; omega
    rw [e1, e2] at h1
    exact h1
  · intro i hi
    rcases h3 i hi with h9 | h9
    · exact hf i h9
    · have := hkw.size; exact ⟨by omega, by omega⟩
  · exact hr.keep h4 (fun hn ad e hx => by injection e with e; subst e; exact (hf _ hx).2 rfl)
theorem GreatAt.keep {w wr w' : World} {g M k : Nat} (h : GreatAt w wr g M k) (hk : Keeps (fun _ => False) wr w') : GreatAt w w' g M k := by
  obtain ⟨u, l, hb, hkw, hf, hr⟩ := h
  exact ⟨u, l, hb.keep hk, hkw.trans hk (fun _ _ h => h), hf, hr.keep hk (no_out _ _)⟩
/-- What does not go in: the whole entry; a byte behind sixteen. -/
theorem great_not (w wr : World) (g M k : Nat) (hM : M = 1048576) (h : GreatAt w wr g M k) (n c : Nat) (bs : List Int) (hn : bs.length = n) (hb : IsBytes bs) (hr : Rd wr (some ⟨g, 0, none⟩) n (vb bs)) (hc : n ≤ c) (hk : k ≤ 16) (hl : 1048576 < n ∧ n ≤ 2097152 ∨ k = 16 ∧ n = 1) :
    Calls Tryd.prog 33 #[.pointer (some ⟨w.heap.size, 0, none⟩), .slice (some ⟨wr.heap.size, 0, none⟩) 1 1] (wr.alloc (.cells #[.slice (some ⟨g, 0, none⟩) n c] 22)) fun e w' => e = .returned (.tuple #[.int .i64 0, errno 3]) ∧ GreatAt w w' g M k ∧ wr.heap.size ≤ w'.heap.size := by
  have h0 := h
  obtain ⟨u, l, hbk, hkw, hf, _⟩ := h
  have hy : ((k * M : Nat) : Int) ≤ 16777216 := by subst hM; omega
  refine (append_one_long wr w.heap.size u l _ _ hbk (some ⟨g, 0, none⟩) n c bs hn hr hb hc (by omega) (by omega) hy (by rw [List.length_replicate]; omega) ?_).mono fun e w' ⟨he, hw⟩ => ⟨he, ?_, ?_⟩
  · rcases hl with h9 | ⟨rfl, rfl⟩
    · exact .inl h9.1
    · exact .inr (.inl (by subst hM; omega))
  · rw [hw]
    exact h0.keep ((Keeps.refl _ _).alloc _)
  · rw [hw]; simp
/-- A nil entry goes in. -/
theorem great_end (w : World) (hG : Glob w) (wr : World) (g M : Nat) (hM : M = 1048576) (h : GreatAt w wr g M 16) :
    Calls Tryd.prog 33 #[.pointer (some ⟨w.heap.size, 0, none⟩), .slice (some ⟨wr.heap.size, 0, none⟩) 1 1] (wr.alloc (.cells #[.slice none 0 0] 22)) fun e w' => e = .returned (.tuple #[.int .i64 16, .nilIface]) ∧ Keeps (fun _ => False) w w' := by
  obtain ⟨u, l, hb, hkw, hf, hr⟩ := h
  have hy : ((16 * M : Nat) : Int) ≤ 16777216 := by subst hM; omega
  refine (append_one w hG wr w.heap.size u l _ _ hb hkw (fun i hi => (hf i hi).1) none 0 0 [] rfl (Rd.nil _ _) (fun hn => absurd hn (by omega)) (fun x hx => by cases hx) (Nat.le_refl _) (by omega) (by omega) (by omega) (by rw [List.length_replicate]; omega)).mono fun e w' ⟨he, u', l', h1, h2, h3, h4⟩ => ⟨by rw [he, List.length_replicate]; rfl, h2⟩
set_option maxRecDepth 100000 in
set_option maxHeartbeats 8000000 in
/-- As many bytes as may be, and one more. -/
theorem great_any (w : World) (hG : Glob w) : Calls Tryd.prog 18 #[] w fun e w' => e = .returned (.bool true) ∧ Keeps (fun _ => False) w w' := by
  have HG := Lib.hid hG
  have HB := Lib.hid (bnew_any w)
  have hC1 : ∀ g W, (Instr.sliceAt 22 (.slice (some ⟨g, 0, none⟩) 1048577 1048577) (some (.int .i64 1)) none none).run Tryd.prog W = .ok (.slice (some ⟨g, 1, none⟩) 1048576 1048576) W := fun g W => by
    have h9 := cut_l (P := Tryd.prog) Tryd.underlying22 (by kernel_rfl) (some ⟨g, 0, none⟩) 1048577 1048577 1 1 rfl (by omega) W
    simpa [cutA, Addr.add] using h9
  have hC0 : ∀ g W, (Instr.sliceAt 22 (.slice (some ⟨g, 0, none⟩) 1048577 1048577) none (some (.int .i64 1)) none).run Tryd.prog W = .ok (.slice (some ⟨g, 0, none⟩) 1 1048577) W := fun g W => by
    have h9 := cut_h (P := Tryd.prog) Tryd.underlying22 (by kernel_rfl) (some ⟨g, 0, none⟩) 1048577 1048577 1 1 rfl (by omega) W
    simpa [cutA, Addr.add] using h9
  obtain ⟨M, hM⟩ : ∃ M, M = 1048576 := ⟨_, rfl⟩
  have HM := Lib.hid hM
  have HMK : Hid (∀ wr g, wr.ownsRow 0 5 1 (.slice (some ⟨g, 0, none⟩) 1048577 1048577) 1048577 (List.replicate 1048577 (.int .u8 0)) → Rd wr (some ⟨g, 0, none⟩) (M + 1) (vb (List.replicate (M + 1) 0))) := Lib.hid fun wr g ho => by
    rw [hM]
    have h9 := Rd.of_own ho
    rw [show vb (List.replicate (1048576 + 1) 0) = List.replicate (1048576 + 1) (.int .u8 0) from List.map_replicate]
    exact h9
  have HST : Hid (∀ wr g k, k + 1 ≤ 16 → GreatAt w wr g M k → g < wr.heap.size → Calls Tryd.prog 33 #[.pointer (some ⟨w.heap.size, 0, none⟩), .slice (some ⟨wr.heap.size, 0, none⟩) 1 1] (wr.alloc (.cells #[.slice (some ⟨g, 1, none⟩) 1048576 1048576] 22)) fun e w' => e = .returned (.tuple #[.int .i64 k, .nilIface]) ∧ GreatAt w w' g M (k + 1) ∧ g < w'.heap.size) := Lib.hid fun wr g k hk h hg => by
    have h9 := great_step w hG wr g M k hM hk h hg
    rw [hM] at h9 ⊢
    exact h9
  have HN1 : Hid (∀ wr g, GreatAt w wr g M 0 → Calls Tryd.prog 33 #[.pointer (some ⟨w.heap.size, 0, none⟩), .slice (some ⟨wr.heap.size, 0, none⟩) 1 1] (wr.alloc (.cells #[.slice (some ⟨g, 0, none⟩) 1048577 1048577] 22)) fun e w' => e = .returned (.tuple #[.int .i64 0, errno 3]) ∧ GreatAt w w' g M 0 ∧ wr.heap.size ≤ w'.heap.size) := Lib.hid fun wr g h => by
    have hr := h
    obtain ⟨_, _, _, _, _, hr⟩ := hr
    have h9 := great_not w wr g M 0 hM h (M + 1) (M + 1) (List.replicate (M + 1) 0) (by simp) (zeros_bytes _) hr (Nat.le_refl _) (by omega) (.inl (by omega))
    rw [hM] at h9 ⊢
    exact h9
  have HN2 : Hid (∀ wr g, GreatAt w wr g M 16 → Calls Tryd.prog 33 #[.pointer (some ⟨w.heap.size, 0, none⟩), .slice (some ⟨wr.heap.size, 0, none⟩) 1 1] (wr.alloc (.cells #[.slice (some ⟨g, 0, none⟩) 1 1048577] 22)) fun e w' => e = .returned (.tuple #[.int .i64 0, errno 3]) ∧ GreatAt w w' g M 16 ∧ wr.heap.size ≤ w'.heap.size) := Lib.hid fun wr g h => by
    have hr := h
    obtain ⟨_, _, _, _, _, hr⟩ := hr
    exact great_not w wr g M 16 hM h 1 1048577 [0] rfl (by intro x hx; simp at hx; omega) (zeros_rd hr).2 (by omega) (by omega) (.inr ⟨rfl, rfl⟩)
  have HEN := Lib.hid (fun wr g h => great_end w hG wr g M hM h)
  clear hG hM
  go_enter Tryd.func18, Tryd.ntmps18
  have tk0 : True := trivial
  go_wp2_with (first
    | (go_at_call 41; refine HB.out.mono ?_; rintro e w1 ⟨rfl, hb1, hk1⟩; have HB1 := Lib.hid hb1; have HK1 := Lib.hid hk1; clear hb1 hk1)
    | ((with_reducible show wpList _ _ _ (⟨some 15, _, _, _, _, _⟩ :: _) _ _); refine wpList_makeN _ rfl _ _ 22 rfl 5 (.int .u8 0) 1 Tryd.underlying22 info5 rfl .i64 .i64 1048577 1048577 1048577 rfl rfl rfl rfl (by omega) (by simp only [maxLen]; omega) ?_; intro w2 ho2 hg2; have hk12 : Keeps (fun _ => False) w1 w2 := (Keeps.refl _ _).trans (Keeps.of_grown hg2) (fun g _ hb => by simp at hb); have hgr : GreatAt w w2 w1.heap.size M 0 := ⟨_, _, by { have h9 := HB1.out.keep hk12; simpa using h9 }, HK1.out.trans hk12 (fun _ _ h => h), (fun i hi => by { have h8 := foot_new hi; have := HB1.out.1.lt; omega }), HMK.out _ _ ho2⟩; have HGR2 := Lib.hid hgr; have HLT2 : Hid (w1.heap.size < w2.heap.size) := Lib.hid (own_lt ho2 rfl); have hn1 := HN1.out w2 w1.heap.size hgr; have HN1' := Lib.hid hn1; clear ho2 hg2 hk12 hgr hn1)
    | (go_at_call 33; have _t := tk0; clear tk0; refine HN1'.out.mono ?_; rintro e w3 ⟨rfl, hgr3, hs3⟩; have hst := HST.out w3 w1.heap.size 0 (by omega) hgr3 (Nat.lt_of_lt_of_le HLT2.out hs3); have HST0 := Lib.hid hst; clear hgr3 hs3 hst)
    | (go_at_call 33; refine HST0.out.mono ?_; rintro e w4 ⟨rfl, hgr4, hs4⟩; have HGR4 := Lib.hid hgr4; have HLT4 := Lib.hid hs4; clear hgr4 hs4)
    | (go_at_call 22; refine (tells_errno _ 3 rfl).mono ?_; rintro e w5 ⟨rfl, hk5⟩; have HGR5 := Lib.hid (HGR4.out.keep hk5); have HLT5 := Lib.hid (Nat.lt_of_lt_of_le HLT4.out hk5.size); clear hk5))
  go_loopw [7, 8, 9] (fun i _ _ wr => ∃ k : Nat, 1 ≤ k ∧ k ≤ 16 ∧ i = .int .i64 k ∧ Hid (GreatAt w wr w1.heap.size M k ∧ w1.heap.size < wr.heap.size)) (fun i _ _ _ => 16 - (intOf i).toNat)
  case atStart => exact ⟨1, by omega, by omega, rfl, Lib.hid ⟨HGR5.out, HLT5.out⟩⟩
  case round =>
    obtain ⟨k, hk1, hk16, rfl, HR⟩ := hrel
    by_cases hlt : k < 16
    · have hst := HST.out wr w1.heap.size k (by omega) HR.out.1 HR.out.2
      have HST1 := Lib.hid hst
      clear hst
      go_wp2_with (go_at_call 33; refine HST1.out.mono ?_; rintro e w6 ⟨rfl, hgr6, hs6⟩; have HGR6 := Lib.hid hgr6; have HLT6 := Lib.hid hs6; clear hgr6 hs6)
      go_round
      case rel => exact ⟨k + 1, by omega, by omega, by go_num, Lib.hid ⟨HGR6.out, HLT6.out⟩⟩
      case measure => simp [intOf]; omega
    · obtain rfl : k = 16 := by omega
      have hn2 := HN2.out wr w1.heap.size HR.out.1
      have HN2' := Lib.hid hn2
      have tk1 : True := trivial
      clear hn2
      go_wp2_with (first
        | (go_at_call 33; have _t := tk1; clear tk1; refine HN2'.out.mono ?_; rintro e w7 ⟨rfl, hgr7, _⟩; have hen := HEN.out w7 w1.heap.size hgr7; have HE7 := Lib.hid hen; clear hgr7 hen)
        | (go_at_call 33; refine HE7.out.mono ?_; rintro e w8 ⟨rfl, hk8⟩; have HK8 := Lib.hid hk8; clear hk8)
        | (go_at_call 22; refine (tells_errno _ 3 rfl).mono ?_; rintro e w9 ⟨rfl, hk9⟩; have HK9 := Lib.hid (HK8.out.trans hk9 (fun _ _ h => h)); clear hk9))
      go_ret
      exact ⟨rfl, HK9.out⟩
set_option maxRecDepth 100000 in
/-- THE LAW: the limits. -/
theorem blong_any (w : World) (hG : Glob w) : Calls Tryd.prog 4 #[] w fun e w' => e = .returned (.bool true) ∧ Keeps (fun _ => False) w w' := by
  have H1 : Hid (Calls Tryd.prog 17 #[.int .i64 65536] w fun e w' => e = .returned (.bool true) ∧ Keeps (fun _ => False) w w') := Lib.hid (many_max w hG 65536 rfl)
  have H2 : Hid (∀ W, Calls Tryd.prog 17 #[.int .i64 65537] W fun e w' => e = .returned (.bool true) ∧ Keeps (fun _ => False) W w') := Lib.hid (fun W => many_over W 65537 rfl)
  have H3 : Hid (∀ W, Keeps (fun _ => False) w W → Calls Tryd.prog 18 #[] W fun e w' => e = .returned (.bool true) ∧ Keeps (fun _ => False) W w') := Lib.hid (fun W hk => great_any W (hG.keep hk (fun _ h => h.elim)))
  clear hG
  go_enter Tryd.func4, Tryd.ntmps4
  have tk0 : True := trivial
  go_wp2_with (first
    | (go_at_call 17; have _t := tk0; clear tk0; refine H1.out.mono ?_; rintro e w1 ⟨rfl, hk1⟩; have HK1 := Lib.hid hk1; clear hk1)
    | (go_at_call 17; refine (H2.out _).mono ?_; rintro e w2 ⟨rfl, hk2⟩; have HK2 := Lib.hid (HK1.out.trans hk2 (fun _ _ h => h)); clear hk2)
    | (go_at_call 18; refine (H3.out _ HK2.out).mono ?_; rintro e w3 ⟨rfl, hk3⟩; have HK3 := Lib.hid (HK2.out.trans hk3 (fun _ _ h => h)); clear hk3))
  go_ret
  exact ⟨rfl, HK3.out⟩
end Go.Proofs.YtknecjjdegngfaaDoor
