/-
  THE LAW of BookChecksGrowth: all cases joined.
-/
import Derived.Test.YtknecjjdegngfaaDoorChkGW
set_option linter.unusedSimpArgs false
namespace Go.Proofs.YtknecjjdegngfaaDoor
open Go Go.RowKit Go.Sha Go.Aff Go.Book
set_option maxRecDepth 100000 in
set_option maxHeartbeats 4000000 in
theorem chkg_long1 (w : World) (m n : Int) (old root : List Int) (hold : IsDig old) (hroot : IsDig root) (ofM ofN : Bool) (A : Option Addr) (N c : Nat) (pss : List (List Int)) (hl : pss.length = N) (hp : RdPartsO (fun _ => False) w A pss) (hNb : N ≤ 1048576)
    (Ap : Option Addr) (Lp cp : Nat) (hw0 : weigh pss < 2147483648) (h : 2000 < N) :
    Calls Tryd.prog 7 #[.agg (claimV (.slice A N c) m n old root (.slice Ap Lp cp) ofM ofN).toArray] w fun e w' => e = .returned (.bool true) ∧ Keeps (fun _ => False) w w' := by
  obtain ⟨C0, hC0⟩ : ∃ C, C = claimV (.slice A N c) m n old root (.slice Ap Lp cp) ofM ofN := ⟨_, rfl⟩
  have h00 : C0[0]? = some (.slice A N c) := by rw [hC0]; rfl
  have h05 : C0[67]? = some (.slice Ap Lp cp) := by rw [hC0]; exact claimV_at _ _ _ _ _ _ hold.1 hroot.1 0
  obtain ⟨W2, hW2⟩ : ∃ W2, W2 = w.alloc (.cells C0.toArray 50) := ⟨_, rfl⟩
  have hk2 : Keeps (fun _ => False) w W2 := by rw [hW2]; exact (Keeps.refl _ w).alloc _
  have HB1 : Hid (Blk W2 w.heap.size 50 C0) := Lib.hid (by rw [hW2]; exact Blk.new w _ _)
  have HK2 := Lib.hid hk2
  have hby := beyond_any W2 A N c pss hl (hp.keep hk2 (fun _ h => h)) (by omega)
  have hdec : decide (2147483648 ≤ weigh pss) = false := decide_eq_false (by omega)
  rw [hdec] at hby
  have HBY := Lib.hid hby
  have f0 : W2.cell? ⟨w.heap.size, 0, none⟩ = some (.slice A N c) := (HB1.out.cell 0).trans h00
  have f5 : W2.cell? ⟨w.heap.size, 67, none⟩ = some (.slice Ap Lp cp) := (HB1.out.cell 67).trans h05
  have g1 : (2000 : Int) < (N : Int) := by omega
  rw [← hC0]
  clear hC0 h00 h05 hby hdec hp hl hk2 hw0 hold hroot
  go_enter Tryd.func7, Tryd.ntmps7
  go_upto_region 1 with fail
  rw [← hW2]
  clear hW2
  go_wp2_with (go_at_call 10; refine HBY.out.mono ?_; rintro e w9 ⟨rfl, hw9⟩; subst hw9)
  go_ret
  exact ⟨rfl, HK2.out⟩
set_option maxRecDepth 100000 in
set_option maxHeartbeats 4000000 in
theorem chkg_long2 (w : World) (m n : Int) (old root : List Int) (hold : IsDig old) (hroot : IsDig root) (ofM ofN : Bool) (A : Option Addr) (N c : Nat) (pss : List (List Int)) (hl : pss.length = N) (hp : RdPartsO (fun _ => False) w A pss) (hNb : N ≤ 1048576)
    (Ap : Option Addr) (Lp cp : Nat) (hw0 : weigh pss < 2147483648) (hN : N ≤ 2000) (h : 2000 < Lp) :
    Calls Tryd.prog 7 #[.agg (claimV (.slice A N c) m n old root (.slice Ap Lp cp) ofM ofN).toArray] w fun e w' => e = .returned (.bool true) ∧ Keeps (fun _ => False) w w' := by
  obtain ⟨C0, hC0⟩ : ∃ C, C = claimV (.slice A N c) m n old root (.slice Ap Lp cp) ofM ofN := ⟨_, rfl⟩
  have h00 : C0[0]? = some (.slice A N c) := by rw [hC0]; rfl
  have h05 : C0[67]? = some (.slice Ap Lp cp) := by rw [hC0]; exact claimV_at _ _ _ _ _ _ hold.1 hroot.1 0
  obtain ⟨W2, hW2⟩ : ∃ W2, W2 = w.alloc (.cells C0.toArray 50) := ⟨_, rfl⟩
  have hk2 : Keeps (fun _ => False) w W2 := by rw [hW2]; exact (Keeps.refl _ w).alloc _
  have HB1 : Hid (Blk W2 w.heap.size 50 C0) := Lib.hid (by rw [hW2]; exact Blk.new w _ _)
  have HK2 := Lib.hid hk2
  have hby := beyond_any W2 A N c pss hl (hp.keep hk2 (fun _ h => h)) (by omega)
  have hdec : decide (2147483648 ≤ weigh pss) = false := decide_eq_false (by omega)
  rw [hdec] at hby
  have HBY := Lib.hid hby
  have f0 : W2.cell? ⟨w.heap.size, 0, none⟩ = some (.slice A N c) := (HB1.out.cell 0).trans h00
  have f5 : W2.cell? ⟨w.heap.size, 67, none⟩ = some (.slice Ap Lp cp) := (HB1.out.cell 67).trans h05
  have g1 : ¬ (2000 : Int) < (N : Int) := by omega
  have g2 : (2000 : Int) < (Lp : Int) := by omega
  rw [← hC0]
  clear hC0 h00 h05 hby hdec hp hl hk2 hw0 hold hroot
  go_enter Tryd.func7, Tryd.ntmps7
  go_upto_region 1 with fail
  rw [← hW2]
  clear hW2
  go_wp2_with (go_at_call 10; refine HBY.out.mono ?_; rintro e w9 ⟨rfl, hw9⟩; subst hw9)
  go_ret
  exact ⟨rfl, HK2.out⟩
set_option maxRecDepth 100000 in
set_option maxHeartbeats 4000000 in
theorem chkg_off (w : World) (m n : Int) (old root : List Int) (hold : IsDig old) (hroot : IsDig root) (ofM ofN : Bool) (A : Option Addr) (N c : Nat) (pss : List (List Int)) (hl : pss.length = N) (hp : RdPartsO (fun _ => False) w A pss) (hN : N ≤ 2000)
    (Ap : Option Addr) (Lp cp : Nat) (hLp : Lp ≤ 2000) (hw0 : weigh pss < 2147483648)
    (hset : ∀ W, Keeps (fun _ => False) w W → Calls Tryd.prog 25 #[.agg (claimV (.slice A N c) m n old root (.slice Ap Lp cp) ofM ofN).toArray] W fun e w' => ∃ B c', e = .returned (.tuple #[.agg (claimV (.slice A N c) m n old root (.slice Ap Lp cp) ofM ofN).toArray, .slice B N c', .bool false]) ∧ MineD W w' 23 B N c' (pss.map leafF)) :
    Calls Tryd.prog 7 #[.agg (claimV (.slice A N c) m n old root (.slice Ap Lp cp) ofM ofN).toArray] w fun e w' => e = .returned (.bool true) ∧ Keeps (fun _ => False) w w' := by
  obtain ⟨C0, hC0⟩ : ∃ C, C = claimV (.slice A N c) m n old root (.slice Ap Lp cp) ofM ofN := ⟨_, rfl⟩
  have h00 : C0[0]? = some (.slice A N c) := by rw [hC0]; rfl
  have h05 : C0[67]? = some (.slice Ap Lp cp) := by rw [hC0]; exact claimV_at _ _ _ _ _ _ hold.1 hroot.1 0
  obtain ⟨W2, hW2⟩ : ∃ W2, W2 = w.alloc (.cells C0.toArray 50) := ⟨_, rfl⟩
  have hk2 : Keeps (fun _ => False) w W2 := by rw [hW2]; exact (Keeps.refl _ w).alloc _
  have HB1 : Hid (Blk W2 w.heap.size 50 C0) := Lib.hid (by rw [hW2]; exact Blk.new w _ _)
  have HK2 := Lib.hid hk2
  have hby := beyond_any W2 A N c pss hl (hp.keep hk2 (fun _ h => h)) (by omega)
  have hdec : decide (2147483648 ≤ weigh pss) = false := decide_eq_false (by omega)
  rw [hdec] at hby
  have HBY := Lib.hid hby
  have f0 : W2.cell? ⟨w.heap.size, 0, none⟩ = some (.slice A N c) := (HB1.out.cell 0).trans h00
  have f5 : W2.cell? ⟨w.heap.size, 67, none⟩ = some (.slice Ap Lp cp) := (HB1.out.cell 67).trans h05
  have g1 : ¬ (2000 : Int) < (N : Int) := by omega
  have g2 : ¬ (2000 : Int) < (Lp : Int) := by omega
  have hl0 : C0.length = 70 := by rw [hC0]; exact claimV_length _ _ _ _ _ _ hold.1 hroot.1
  have hone : ∀ u ∈ C0, u.oneCell' = true := by rw [hC0]; exact claimV_one _ _ _ _ _ _ _ _ rfl rfl
  have HCI0 : Hid ((Tryd.prog.info? 50).map (·.size) = some C0.length) := Lib.hid (claimInfo hl0)
  have HC1 := Lib.hid hone
  rw [← hC0] at hset ⊢
  have HSE := Lib.hid hset
  clear hC0 h00 h05 hby hdec hp hl hk2 hw0 hold hroot hset hone hl0
  go_enter Tryd.func7, Tryd.ntmps7
  go_upto_region 1 with fail
  rw [← hW2]
  clear hW2
  go_wp2_with (first
    | (go_at_call 10; refine HBY.out.mono ?_; rintro e w9 ⟨rfl, hw9⟩; subst hw9)
    | ((with_reducible show wpList _ _ _ (⟨_, Op.load 50 _, _, _, _, _⟩ :: _) _ _); refine wpList_load_whole rfl 50 _ rfl _ rfl HB1.out Tryd.underlying50 rfl HCI0.out ?_)
    | (go_at_call 25; refine (HSE.out _ HK2.out).mono ?_; rintro e wS ⟨BS, cS, rfl, hmS⟩; have HMS := Lib.hid hmS; clear hmS)
    | ((with_reducible show wpList _ _ _ (⟨none, Op.store 50 _ _, _, _, _, _⟩ :: _) _ _); refine wpList_store_whole rfl 50 _ _ rfl C0 rfl rfl (HMS.out.2.2.2.1.blk HB1.out (fun h => h)) rfl HCI0.out HC1.out ?_))
  go_ret
  exact ⟨rfl, (HK2.out.trans HMS.out.2.2.2.1 (fun _ _ h => h)).setRow (.inr (Nat.le_refl _)) _⟩
set_option maxRecDepth 100000 in
set_option maxHeartbeats 4000000 in
theorem zero_ok (w : World) (k : Nat) (old root old' root' : List Int) (hold : IsDig old) (hroot : IsDig root) (hold' : IsDig old') (hroot' : IsDig root') (ofM ofN : Bool) (A : Option Addr) (N c : Nat) (pss : List (List Int)) (hl : pss.length = N) (hp : RdPartsO (fun _ => False) w A pss) (hN : N ≤ 2000)
    (Ap : Option Addr) (cp : Nat) (ps : List (List Int)) (hr : RdD w Ap 0 ps) (hw0 : weigh pss < 2147483648)
    (hset : ∀ W, Keeps (fun _ => False) w W → Calls Tryd.prog 25 #[.agg (claimV (.slice A N c) 0 k old root (.slice Ap 0 cp) ofM ofN).toArray] W fun e w' => ∃ B c', e = .returned (.tuple #[.agg (claimV (.slice A N c) 0 k old' root' (.slice Ap 0 cp) ofM ofN).toArray, .slice B N c', .bool true]) ∧ MineD W w' 23 B N c' (pss.map leafF))
    (hon : ofN = true → 0 ≤ (k : Int) ∧ (k : Int) ≤ (N : Int) ∧ root' = brootF ((pss.map leafF).take (k : Int).toNat))
    (HCK : ∀ (W : World) (A' : Option Addr) (c' : Nat), Keeps (fun _ => False) w W → RdD W A' 0 ps → 0 ≤ c' → Calls Tryd.prog 30 #[.int .i64 0, .agg (vb old').toArray, .int .i64 k, .agg (vb root').toArray, .slice A' 0 c'] W fun e w' => e = .returned .nilIface ∧ Keeps (fun _ => False) W w') (HRE : ∀ (W : World) (A' : Option Addr) (c' : Nat), Keeps (fun _ => False) w W → RdD W A' 0 ps → 0 ≤ c' → Calls Tryd.prog 31 #[.int .i64 0, .agg (vb old').toArray, .int .i64 k, .agg (vb root').toArray, .slice A' 0 c'] W fun e w' => ∃ B nr c', e = .returned (.tuple #[.int .i64 0, .int .i64 0, .slice B nr c']) ∧ Keeps (fun _ => False) W w') (h1 : old' = brootF []) :
    Calls Tryd.prog 7 #[.agg (claimV (.slice A N c) 0 k old root (.slice Ap 0 cp) ofM ofN).toArray] w fun e w' => e = .returned (.bool true) ∧ Keeps (fun _ => False) w w' := by
  cases hof : ofN
  · subst hof
    exact chkg_okf w 0 k old root old' root' hold hroot hold' hroot' ofM false A N c pss hl hp hN Ap 0 cp ps hr (by omega) hw0 hset HCK (fun W => tells_nil W 0) HRE rfl
  · subst hof
    obtain ⟨hk0, hkN, _⟩ := hon rfl
    exact chkg_eq w 0 k old root old' root' hold hroot hold' hroot' ofM true A N c pss hl hp hN Ap 0 cp ps hr (by omega) hw0 hset HCK (fun W => tells_nil W 0) HRE rfl (by omega) hkN hk0 _ rfl (by simpa using h1)
set_option maxRecDepth 100000 in
set_option maxHeartbeats 4000000 in
theorem chkg_zero (w : World) (hG : Glob w) (k : Nat) (old root old' root' : List Int) (hold : IsDig old) (hroot : IsDig root) (hold' : IsDig old') (hroot' : IsDig root') (ofM ofN : Bool) (A : Option Addr) (N c : Nat) (pss : List (List Int)) (hl : pss.length = N) (hp : RdPartsO (fun _ => False) w A pss) (hN : N ≤ 2000)
    (Ap : Option Addr) (cp : Nat) (ps : List (List Int)) (hr : RdD w Ap 0 ps) (hw0 : weigh pss < 2147483648)
    (hset : ∀ W, Keeps (fun _ => False) w W → Calls Tryd.prog 25 #[.agg (claimV (.slice A N c) 0 k old root (.slice Ap 0 cp) ofM ofN).toArray] W fun e w' => ∃ B c', e = .returned (.tuple #[.agg (claimV (.slice A N c) 0 k old' root' (.slice Ap 0 cp) ofM ofN).toArray, .slice B N c', .bool true]) ∧ MineD W w' 23 B N c' (pss.map leafF))
    (hon : ofN = true → 0 ≤ (k : Int) ∧ (k : Int) ≤ (N : Int) ∧ root' = brootF ((pss.map leafF).take (k : Int).toNat)) (hk9 : k ≤ 9007199254740991) :
    Calls Tryd.prog 7 #[.agg (claimV (.slice A N c) 0 k old root (.slice Ap 0 cp) ofM ofN).toArray] w fun e w' => e = .returned (.bool true) ∧ Keeps (fun _ => False) w w' := by
  have hGW := fun W (hW : Keeps (fun _ => False) w W) => hG.keep hW (fun _ h => h.elim)
  have hLp : (0 : Nat) ≤ 2000 := by omega
  have hbr : brootF ([] : List (List Int)) = emptyF := by unfold brootF; rw [rootG]; simp
  have okf := fun (HCK : ∀ (W : World) (A' : Option Addr) (c' : Nat), Keeps (fun _ => False) w W → RdD W A' 0 ps → 0 ≤ c' → Calls Tryd.prog 30 #[.int .i64 0, .agg (vb old').toArray, .int .i64 k, .agg (vb root').toArray, .slice A' 0 c'] W fun e w' => e = .returned .nilIface ∧ Keeps (fun _ => False) W w') (HRE : ∀ (W : World) (A' : Option Addr) (c' : Nat), Keeps (fun _ => False) w W → RdD W A' 0 ps → 0 ≤ c' → Calls Tryd.prog 31 #[.int .i64 0, .agg (vb old').toArray, .int .i64 k, .agg (vb root').toArray, .slice A' 0 c'] W fun e w' => ∃ B nr c', e = .returned (.tuple #[.int .i64 0, .int .i64 0, .slice B nr c']) ∧ Keeps (fun _ => False) W w') (h1 : old' = emptyF) => zero_ok w k old root old' root' hold hroot hold' hroot' ofM ofN A N c pss hl hp hN Ap cp ps hr hw0 hset hon HCK HRE (h1.trans hbr.symm)
  by_cases h1 : old' = emptyF
  · by_cases h2 : k = 0
    · by_cases h3 : root' = emptyF
      · exact okf (fun W A' c' hW _ _ => cgrow_zero_C W (hGW W hW) old' root' hold' hroot' k hk9 A' c' h1 h2 h3) (fun W A' c' _ _ _ => (rgrow_zero_C W old' root' hold' hroot' k hk9 A' c' h1 h2 h3).mono fun e w' ⟨a, b⟩ => ⟨none, 0, 0, a, b⟩) h1
      · exact chkg_not w 0 k old root old' root' hold hroot hold' hroot' ofM ofN A N c pss hl hp hN Ap 0 cp ps hr hLp hw0 hset _ _ 271 (-1) (fun W => by kernel_rfl)
            (fun W A' c' hW _ _ => cgrow_zero_D W (hGW W hW) old' root' hold' hroot' k hk9 A' c' h1 h2 h3)
            (fun W => tells_errno W 271 rfl)
            (fun W A' c' _ _ _ => (rgrow_zero_D W old' root' hold' hroot' k hk9 A' c' h1 h2 h3).mono fun e w' ⟨a, b⟩ => ⟨none, 0, 0, a, b⟩)
    · exact okf (fun W A' c' hW _ _ => cgrow_zero_B W (hGW W hW) old' root' hold' hroot' k hk9 A' c' h1 h2) (fun W A' c' _ _ _ => (rgrow_zero_B W old' root' hold' hroot' k hk9 A' c' h1 h2).mono fun e w' ⟨a, b⟩ => ⟨none, 0, 0, a, b⟩) h1
  · exact chkg_not w 0 k old root old' root' hold hroot hold' hroot' ofM ofN A N c pss hl hp hN Ap 0 cp ps hr hLp hw0 hset _ _ 271 (-1) (fun W => by kernel_rfl)
            (fun W A' c' hW _ _ => cgrow_zero_A W (hGW W hW) old' root' hold' hroot' k hk9 A' c' h1)
            (fun W => tells_errno W 271 rfl)
            (fun W A' c' _ _ _ => (rgrow_zero_A W old' root' hold' hroot' k hk9 A' c' h1).mono fun e w' ⟨a, b⟩ => ⟨none, 0, 0, a, b⟩)
set_option maxRecDepth 100000 in
set_option maxHeartbeats 4000000 in
theorem chkg_up (w : World) (hG : Glob w) (i k : Nat) (old root old' root' : List Int) (hold : IsDig old) (hroot : IsDig root) (hold' : IsDig old') (hroot' : IsDig root') (ofM ofN : Bool) (A : Option Addr) (N c : Nat) (pss : List (List Int)) (hl : pss.length = N) (hp : RdPartsO (fun _ => False) w A pss) (hN : N ≤ 2000) (hcap : N ≤ c) (hsm : ∀ bs ∈ pss, bs.length ≤ 2147483648)
    (Ap : Option Addr) (Lp cp : Nat) (ps : List (List Int)) (hr : RdD w Ap Lp ps) (hLp : Lp ≤ 2000) (hw0 : weigh pss < 2147483648)
    (hset : ∀ W, Keeps (fun _ => False) w W → Calls Tryd.prog 25 #[.agg (claimV (.slice A N c) i k old root (.slice Ap Lp cp) ofM ofN).toArray] W fun e w' => ∃ B c', e = .returned (.tuple #[.agg (claimV (.slice A N c) i k old' root' (.slice Ap Lp cp) ofM ofN).toArray, .slice B N c', .bool true]) ∧ MineD W w' 23 B N c' (pss.map leafF))
    (hon : ofN = true → 0 ≤ (k : Int) ∧ (k : Int) ≤ (N : Int) ∧ root' = brootF ((pss.map leafF).take (k : Int).toNat)) (hk9 : k ≤ 9007199254740991) (h0 : 0 < i) (hik : i ≤ k) (hLe : Lp = glenF i k true)
    (s : List Int) (pre ps' : List (List Int)) (hs : IsDig s) (hps : ps = pre ++ ps') (hpl : ps'.length = (gwayF i k true).1.length) (hpre : (gwayF i k true).2 = true ∧ pre = [] ∧ s = old' ∨ (gwayF i k true).2 = false ∧ pre = [s])
    (hc1 : IsDig (climb2 (s, s) (gwayF i k true).1 ps').1) (hc2 : IsDig (climb2 (s, s) (gwayF i k true).1 ps').2) :
    Calls Tryd.prog 7 #[.agg (claimV (.slice A N c) i k old root (.slice Ap Lp cp) ofM ofN).toArray] w fun e w' => e = .returned (.bool true) ∧ Keeps (fun _ => False) w w' := by
  have hGW := fun W (hW : Keeps (fun _ => False) w W) => hG.keep hW (fun _ h => h.elim)
  have hct := climb_two (List.replicate 32 0) rfl (gwayF i k true).1 ps' s s hs.1 hs.1
  have hct' : climbF joinT2 ofT2 aheadT2 (s ++ s) (gwayF i k true).1 ps' = (climb2 (s, s) (gwayF i k true).1 ps').1 ++ (climb2 (s, s) (gwayF i k true).1 ps').2 := hct
  obtain ⟨a, ha⟩ : ∃ a, a = (climb2 (s, s) (gwayF i k true).1 ps').1 := ⟨_, rfl⟩
  obtain ⟨b, hb⟩ : ∃ b, b = (climb2 (s, s) (gwayF i k true).1 ps').2 := ⟨_, rfl⟩
  rw [← ha] at hc1 hct'
  rw [← hb] at hc2 hct'
  have HNF : a ≠ old' → ∀ (W : World) (A' : Option Addr) (c' : Nat), Keeps (fun _ => False) w W → RdD W A' Lp ps → Lp ≤ c' → Calls Tryd.prog 30 #[.int .i64 i, .agg (vb old').toArray, .int .i64 k, .agg (vb root').toArray, .slice A' Lp c'] W fun e w' => e = .returned (errno 271) ∧ Keeps (fun _ => False) W w' := fun h W A' c' hW hrW hcW => by
    rcases hpre with ⟨hk, rfl, rfl⟩ | ⟨hk, rfl⟩
    · have e : Lp = (gwayF i k true).1.length := by rw [hLe]; unfold glenF; rw [hk]; simp
      rw [hps, List.nil_append, e] at hrW
      rw [e]
      exact cgrow_known_f W (hGW W hW) s root' hold' hroot' i k hk9 h0 hik A' c' ps' hk hrW a b hc1 hc2 h hct'
    · have e : Lp = (gwayF i k true).1.length + 1 := by rw [hLe]; unfold glenF; rw [hk]; simp
      rw [hps, e] at hrW
      rw [e] at hcW ⊢
      exact cgrow_new_f W (hGW W hW) old' root' s hold' hroot' hs i k hk9 h0 hik A' c' ps' hk hrW hcW a b hc1 hc2 h hct'
  have HNT : a = old' → b ≠ root' → ∀ (W : World) (A' : Option Addr) (c' : Nat), Keeps (fun _ => False) w W → RdD W A' Lp ps → Lp ≤ c' → Calls Tryd.prog 30 #[.int .i64 i, .agg (vb old').toArray, .int .i64 k, .agg (vb root').toArray, .slice A' Lp c'] W fun e w' => e = .returned (errno 271) ∧ Keeps (fun _ => False) W w' := fun h1 h W A' c' hW hrW hcW => by
    rcases hpre with ⟨hk, rfl, rfl⟩ | ⟨hk, rfl⟩
    · have e : Lp = (gwayF i k true).1.length := by rw [hLe]; unfold glenF; rw [hk]; simp
      rw [hps, List.nil_append, e] at hrW
      rw [e]
      exact cgrow_known_tf W (hGW W hW) s root' hold' hroot' i k hk9 h0 hik A' c' ps' hk hrW b hc2 h (by rw [hct', h1])
    · have e : Lp = (gwayF i k true).1.length + 1 := by rw [hLe]; unfold glenF; rw [hk]; simp
      rw [hps, e] at hrW
      rw [e] at hcW ⊢
      exact cgrow_new_tf W (hGW W hW) old' root' s hold' hroot' hs i k hk9 h0 hik A' c' ps' hk hrW hcW b hc2 h (by rw [hct', h1])
  have HOK : a = old' → b = root' → ∀ (W : World) (A' : Option Addr) (c' : Nat), Keeps (fun _ => False) w W → RdD W A' Lp ps → Lp ≤ c' → Calls Tryd.prog 30 #[.int .i64 i, .agg (vb old').toArray, .int .i64 k, .agg (vb root').toArray, .slice A' Lp c'] W fun e w' => e = .returned .nilIface ∧ Keeps (fun _ => False) W w' := fun h1 h2 W A' c' hW hrW hcW => by
    rcases hpre with ⟨hk, rfl, rfl⟩ | ⟨hk, rfl⟩
    · have e : Lp = (gwayF i k true).1.length := by rw [hLe]; unfold glenF; rw [hk]; simp
      rw [hps, List.nil_append, e] at hrW
      rw [e]
      exact cgrow_known W (hGW W hW) s root' hold' hroot' i k hk9 h0 hik A' c' ps' hk hrW (by rw [hct', h1, h2])
    · have e : Lp = (gwayF i k true).1.length + 1 := by rw [hLe]; unfold glenF; rw [hk]; simp
      rw [hps, e] at hrW
      rw [e] at hcW ⊢
      exact cgrow_new W (hGW W hW) old' root' s hold' hroot' hs i k hk9 h0 hik A' c' ps' hk hrW hcW (by rw [hct', h1, h2])
  by_cases h1 : a = old'
  · by_cases h2 : b = root'
    · have HRE : ∀ (W : World) (A' : Option Addr) (c' : Nat), Keeps (fun _ => False) w W → RdD W A' Lp ps → Lp ≤ c' → Calls Tryd.prog 31 #[.int .i64 i, .agg (vb old').toArray, .int .i64 k, .agg (vb root').toArray, .slice A' Lp c'] W fun e w' => ∃ B nr c', e = .returned (.tuple #[.int .i64 0, .int .i64 0, .slice B nr c']) ∧ MineP W w' 22 B nr c' (gupRows (s, s) (gwayF i k true).1 ps') := fun W A' c' _ hrW hcW => by
        rw [hps] at hrW
        exact (rgrow_up_tt W old' root' s hold' hroot' hs i k hk9 h0 hik A' Lp c' pre ps' hpre hrW hcW hpl hLe (ha.symm.trans h1) (hb.symm.trans h2)).mono fun e w' ⟨B, c2, x1, x2⟩ => ⟨B, _, c2, x1, x2⟩
      have HRK : ∀ (W : World) (A' : Option Addr) (c' : Nat), Keeps (fun _ => False) w W → RdD W A' Lp ps → Lp ≤ c' → Calls Tryd.prog 31 #[.int .i64 i, .agg (vb old').toArray, .int .i64 k, .agg (vb root').toArray, .slice A' Lp c'] W fun e w' => ∃ B nr c', e = .returned (.tuple #[.int .i64 0, .int .i64 0, .slice B nr c']) ∧ Keeps (fun _ => False) W w' := fun W A' c' hW hrW hcW => (HRE W A' c' hW hrW hcW).mono fun e w' ⟨B, nr, c2, x1, x2⟩ => ⟨B, nr, c2, x1, x2.keeps⟩
      cases hof : ofN
      · subst hof
        exact chkg_okf w i k old root old' root' hold hroot hold' hroot' ofM false A N c pss hl hp hN Ap Lp cp ps hr hLp hw0 hset (HOK h1 h2) (fun W => tells_nil W 0) HRK rfl
      · subst hof
        obtain ⟨_, hkN, hrt⟩ := hon rfl
        simp only [Int.toNat_natCast] at hrt
        by_cases hle : old' = brootF ((pss.map leafF).take (i : Int).toNat)
        · exact chkg_eq w i k old root old' root' hold hroot hold' hroot' ofM true A N c pss hl hp hN Ap Lp cp ps hr hLp hw0 hset (HOK h1 h2) (fun W => tells_nil W 0) HRK rfl (by omega) hkN (by omega) _ rfl hle
        · have hex := growth_law k (pss.take k) (by rw [List.length_take]; omega) i true s ps' h0 hik hs.1 (fun d hd => (hr.2.1 d (by rw [hps]; simp [hd])).1) hpl (by rw [← hb, h2, hrt, List.map_take])
          have hex2 : Exc (gupRows (s, s) (gwayF i k true).1 ps') (rowsF (pss.take k)) := by
            rcases hex with he | hx
            · rw [← ha, h1, List.take_take, Nat.min_eq_left hik, List.map_take] at he
              exact absurd (by rw [Int.toNat_natCast]; exact he) hle
            · exact hx
          have hul : (gupRows (s, s) (gwayF i k true).1 ps').length ≤ 1000 := by have := gupRows_len (gwayF i k true).1 ps' (s, s); have := gway_short i k 53 true (by omega); omega
          exact chkg_neq w i k old root old' root' hold hroot hold' hroot' ofM true A N c pss hl hp hN hcap hsm Ap Lp cp ps hr hLp hw0 hset (HOK h1 h2) (fun W => tells_nil W 0) _ hul HRE rfl (by omega) (by omega) hkN (by omega) _ rfl hle (by rw [Int.toNat_natCast]; exact hex2)
    · exact chkg_not w i k old root old' root' hold hroot hold' hroot' ofM ofN A N c pss hl hp hN Ap Lp cp ps hr hLp hw0 hset _ _ 271 (-1) (fun W => by kernel_rfl) (HNT h1 h2) (fun W => tells_errno W 271 rfl) (fun W A' c' _ hrW hcW => by
        rw [hps] at hrW
        exact (rgrow_up_tf W old' root' s hold' hroot' hs i k hk9 h0 hik A' Lp c' pre ps' hpre hrW hcW hpl hLe (ha.symm.trans h1) (fun h => h2 (hb.trans h))).mono fun e w' ⟨B, c2, x1, x2⟩ => ⟨B, _, c2, x1, x2.keeps⟩)
  · exact chkg_not w i k old root old' root' hold hroot hold' hroot' ofM ofN A N c pss hl hp hN Ap Lp cp ps hr hLp hw0 hset _ _ 271 (-1) (fun W => by kernel_rfl) (HNF h1) (fun W => tells_errno W 271 rfl) (fun W A' c' _ hrW hcW => by
      rw [hps] at hrW
      exact (rgrow_up_f W old' root' s hold' hroot' hs i k hk9 h0 hik A' Lp c' pre ps' hpre hrW hcW hpl hLe (fun h => h1 (ha.trans h))).mono fun e w' ⟨B, c2, x1, x2⟩ => ⟨B, _, c2, x1, x2.keeps⟩)
theorem grow_start {w : World} {A : Option Addr} {L i k : Nat} {old : List Int} {ps : List (List Int)} (hold : IsDig old) (hr : RdD w A L ps) (hL : L = glenF i k true) :
    ∃ (s : List Int) (pre ps' : List (List Int)), IsDig s ∧ ps = pre ++ ps' ∧ ps'.length = (gwayF i k true).1.length ∧ ((gwayF i k true).2 = true ∧ pre = [] ∧ s = old ∨ (gwayF i k true).2 = false ∧ pre = [s]) := by
  cases hk : (gwayF i k true).2
  · have e : ps.length = (gwayF i k true).1.length + 1 := by rw [hr.1, hL]; unfold glenF; rw [hk]; simp
    match ps, e with
    | s :: ps', e => exact ⟨s, [s], ps', hr.2.1 s (by simp), rfl, by simpa using e, .inr ⟨rfl, rfl⟩⟩
  · have e : ps.length = (gwayF i k true).1.length := by rw [hr.1, hL]; unfold glenF; rw [hk]; simp
    exact ⟨old, [], ps, hold, rfl, e, .inl ⟨rfl, rfl, rfl⟩⟩
set_option maxRecDepth 100000 in
set_option maxHeartbeats 4000000 in
theorem chkg_core (w : World) (hG : Glob w) (m n : Int) (old root old' root' : List Int) (hold : IsDig old) (hroot : IsDig root) (hold' : IsDig old') (hroot' : IsDig root') (ofM ofN : Bool) (A : Option Addr) (N c : Nat) (pss : List (List Int)) (hl : pss.length = N) (hp : RdPartsO (fun _ => False) w A pss) (hN : N ≤ 2000) (hcap : N ≤ c) (hsm : ∀ bs ∈ pss, bs.length ≤ 2147483648)
    (Ap : Option Addr) (Lp cp : Nat) (ps : List (List Int)) (hr : RdD w Ap Lp ps) (hLp : Lp ≤ 2000) (hw0 : weigh pss < 2147483648)
    (hset : ∀ W, Keeps (fun _ => False) w W → Calls Tryd.prog 25 #[.agg (claimV (.slice A N c) m n old root (.slice Ap Lp cp) ofM ofN).toArray] W fun e w' => ∃ B c', e = .returned (.tuple #[.agg (claimV (.slice A N c) m n old' root' (.slice Ap Lp cp) ofM ofN).toArray, .slice B N c', .bool true]) ∧ MineD W w' 23 B N c' (pss.map leafF))
    (hon : ofN = true → 0 ≤ n ∧ n ≤ (N : Int) ∧ root' = brootF ((pss.map leafF).take n.toNat)) :
    Calls Tryd.prog 7 #[.agg (claimV (.slice A N c) m n old root (.slice Ap Lp cp) ofM ofN).toArray] w fun e w' => e = .returned (.bool true) ∧ Keeps (fun _ => False) w w' := by
  by_cases hbad : n < 0 ∨ 9007199254740991 < n ∨ m < 0 ∨ n < m
  · exact chkg_not w m n old root old' root' hold hroot hold' hroot' ofM ofN A N c pss hl hp hN Ap Lp cp ps hr hLp hw0 hset _ _ 2 (-1) (fun W => by kernel_rfl)
            (fun W A' c' _ _ _ => cgrow_arg W old' root' m n A' Lp c' hbad)
            (fun W => tells_errno W 2 rfl)
            (fun W A' c' _ _ _ => (rgrow_arg W old' root' m n A' Lp c' hbad).mono fun e w' ⟨h1, h2⟩ => ⟨none, 0, 0, h1, h2⟩)
  · obtain ⟨i, rfl⟩ : ∃ k : Nat, m = k := ⟨m.toNat, by omega⟩
    obtain ⟨k, rfl⟩ : ∃ k : Nat, n = k := ⟨n.toNat, by omega⟩
    have hk9 : k ≤ 9007199254740991 := by omega
    have hik : i ≤ k := by omega
    by_cases hLe : Lp = if 0 < i then glenF i k true else 0
    · by_cases h0 : 0 < i
      · rw [if_pos h0] at hLe
        obtain ⟨s, pre, ps', hs, hps, hpl, hpre⟩ := grow_start hold' hr hLe
        have hcd := climb2_dig (s, s) (gwayF i k true).1 ps' hs hs (fun x hx => hr.2.1 x (by rw [hps]; simp [hx]))
        exact chkg_up w hG i k old root old' root' hold hroot hold' hroot' ofM ofN A N c pss hl hp hN hcap hsm Ap Lp cp ps hr hLp hw0 hset hon hk9 h0 hik hLe s pre ps' hs hps hpl hpre hcd.1 hcd.2
      · obtain rfl : i = 0 := by omega
        rw [if_neg h0] at hLe
        subst hLe
        exact chkg_zero w hG k old root old' root' hold hroot hold' hroot' ofM ofN A N c pss hl hp hN Ap cp ps hr hw0 hset hon hk9
    · exact chkg_not w i k old root old' root' hold hroot hold' hroot' ofM ofN A N c pss hl hp hN Ap Lp cp ps hr hLp hw0 hset _ _ 270 ((if 0 < i then glenF i k true else 0 : Nat)) (fun W => by kernel_rfl)
            (fun W A' c' _ _ _ => cgrow_len W old' root' i k hk9 hik A' Lp c' hLe)
            (fun W => tells_spot W 270 _ rfl (by omega))
            (fun W A' c' _ _ _ => (rgrow_len W old' root' i k hk9 hik A' Lp c' hLe).mono fun e w' ⟨h1, h2⟩ => ⟨none, 0, 0, h1, h2⟩)
set_option maxRecDepth 100000 in
set_option maxHeartbeats 4000000 in
/-- THE LAW. -/
theorem chkg_any (w : World) (hG : Glob w) (m n : Int) (old root : List Int) (hold : IsDig old) (hroot : IsDig root) (ofM ofN : Bool) (A : Option Addr) (N c : Nat) (pss : List (List Int)) (hl : pss.length = N) (hp : RdPartsO (fun _ => False) w A pss) (hNb : N ≤ 1048576) (hcap : N ≤ c) (hfl : pss.flatten.length ≤ 1048576)
    (Ap : Option Addr) (Lp cp : Nat) (ps : List (List Int)) (hr : RdD w Ap Lp ps) :
    Calls Tryd.prog 7 #[.agg (claimV (.slice A N c) m n old root (.slice Ap Lp cp) ofM ofN).toArray] w fun e w' => e = .returned (.bool true) ∧ Keeps (fun _ => False) w w' := by
  have hw0 : weigh pss < 2147483648 := by unfold weigh; omega
  have hsm : ∀ bs ∈ pss, bs.length ≤ 2147483648 := fun bs hb => by
    have : bs.length ≤ pss.flatten.length := flat_mem hb
    omega
  by_cases hN : N ≤ 2000
  · by_cases hLp : Lp ≤ 2000
    · have hpk := fun (W : World) (hW : Keeps (fun _ => False) w W) => hp.keep hW (fun _ h => h)
      have hdO := fun k => dig_root ((digs_leaves pss).take k)
      have OFF := fun hset => chkg_off w m n old root hold hroot ofM ofN A N c pss hl hp hN Ap Lp cp hLp hw0 hset
      have CORE := fun old' root' hold' hroot' hset hon => chkg_core w hG m n old root old' root' hold hroot hold' hroot' ofM ofN A N c pss hl hp hN hcap hsm Ap Lp cp ps hr hLp hw0 hset hon
      cases ofN
      · cases ofM
        · exact CORE old root hold hroot (fun W hW => settled_ff W m n old root hold hroot _ rfl A N c pss hl (hpk W hW) hN hsm) (fun h => by cases h)
        · by_cases m1 : m < 0
          · exact OFF (fun W hW => settled_m1f W m n old root hold hroot _ rfl A N c pss hl (hpk W hW) hN hsm m1)
          · by_cases m2 : (N : Int) < m
            · exact OFF (fun W hW => settled_m2f W m n old root hold hroot _ rfl A N c pss hl (hpk W hW) hN hsm m1 m2)
            · exact CORE _ root (hdO m.toNat) hroot (fun W hW => settled_ft W m n old root hold hroot _ rfl A N c pss hl (hpk W hW) hN hsm m1 m2) (fun h => by cases h)
      · by_cases n1 : n < 0
        · cases ofM
          · exact OFF (fun W hW => settled_n1f W m n old root hold hroot _ rfl A N c pss hl (hpk W hW) hN hsm n1)
          · exact OFF (fun W hW => settled_n1t W m n old root hold hroot _ rfl A N c pss hl (hpk W hW) hN hsm n1)
        · by_cases n2 : (N : Int) < n
          · cases ofM
            · exact OFF (fun W hW => settled_n2f W m n old root hold hroot _ rfl A N c pss hl (hpk W hW) hN hsm n1 n2)
            · exact OFF (fun W hW => settled_n2t W m n old root hold hroot _ rfl A N c pss hl (hpk W hW) hN hsm n1 n2)
          · cases ofM
            · exact CORE old _ hold (hdO n.toNat) (fun W hW => settled_tf W m n old root hold hroot _ rfl A N c pss hl (hpk W hW) hN hsm n1 n2) (fun _ => ⟨by omega, by omega, rfl⟩)
            · by_cases m1 : m < 0
              · exact OFF (fun W hW => settled_m1t W m n old root hold hroot _ rfl A N c pss hl (hpk W hW) hN hsm n1 n2 m1)
              · by_cases m2 : (N : Int) < m
                · exact OFF (fun W hW => settled_m2t W m n old root hold hroot _ rfl A N c pss hl (hpk W hW) hN hsm n1 n2 m1 m2)
                · exact CORE _ _ (hdO m.toNat) (hdO n.toNat) (fun W hW => settled_tt W m n old root hold hroot _ rfl A N c pss hl (hpk W hW) hN hsm n1 n2 m1 m2) (fun _ => ⟨by omega, by omega, rfl⟩)
    · exact chkg_long2 w m n old root hold hroot ofM ofN A N c pss hl hp hNb Ap Lp cp hw0 hN (by omega)
  · exact chkg_long1 w m n old root hold hroot ofM ofN A N c pss hl hp hNb Ap Lp cp hw0 (by omega)
end Go.Proofs.YtknecjjdegngfaaDoor
