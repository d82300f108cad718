/-
  THE LAW of BookChecksEntry: all cases joined.
-/
import Derived.Test.YtknecjjdegngfaaDoorChkEW
set_option linter.unusedSimpArgs false
namespace Go.Proofs.YtknecjjdegngfaaDoor
open Go Go.RowKit Go.Sha Go.Aff Go.Book
theorem upRows_len : ∀ (way : List Bool) (ps : List (List Int)) (s : List Int), (upRows s way ps).length ≤ way.length
  | [], _, s => by simp [upRows]
  | _ :: _, [], s => by simp [upRows]
  | b :: way, d :: ps, s => by
    have h := upRows_len way ps (if b then pairF s d else pairF d s)
    simp only [upRows, List.length_cons]
    omega
set_option maxRecDepth 100000 in
set_option maxHeartbeats 4000000 in
theorem chke_long1 (w : World) (m n : Int) (old root leaf : List Int) (hold : IsDig old) (hroot : IsDig root) (ofM ofN : Bool) (A : Option Addr) (N c : Nat) (pss : List (List Int)) (hl : pss.length = N) (hp : RdPartsO (fun _ => False) w A pss) (hNb : N ≤ 1048576)
    (Ap : Option Addr) (Lp cp : Nat) (hw0 : weigh pss < 2147483648) (h : 2000 < N) :
    Calls Tryd.prog 6 #[.agg (claimV (.slice A N c) m n old root (.slice Ap Lp cp) ofM ofN).toArray, .agg (vb leaf).toArray] w fun e w' => e = .returned (.bool true) ∧ Keeps (fun _ => False) w w' := by
  obtain ⟨C0, hC0⟩ : ∃ C, C = claimV (.slice A N c) m n old root (.slice Ap Lp cp) ofM ofN := ⟨_, rfl⟩
  have h00 : C0[0]? = some (.slice A N c) := by rw [hC0]; rfl
  have h05 : C0[67]? = some (.slice Ap Lp cp) := by rw [hC0]; exact claimV_at _ _ _ _ _ _ hold.1 hroot.1 0
  obtain ⟨W2, hW2⟩ : ∃ W2, W2 = (w.alloc (.cells C0.toArray 50)).alloc (.cells (vb leaf).toArray 24) := ⟨_, rfl⟩
  have hk2 : Keeps (fun _ => False) w W2 := by rw [hW2]; exact ((Keeps.refl _ w).alloc _).alloc _
  have HB1 : Hid (Blk W2 w.heap.size 50 C0) := Lib.hid (by rw [hW2]; exact (Blk.new w _ _).alloc _)
  have HK2 := Lib.hid hk2
  have hby := beyond_any W2 A N c pss hl (hp.keep hk2 (fun _ h => h)) (by omega)
  have hdec : decide (2147483648 ≤ weigh pss) = false := decide_eq_false (by omega)
  rw [hdec] at hby
  have HBY := Lib.hid hby
  have f0 : W2.cell? ⟨w.heap.size, 0, none⟩ = some (.slice A N c) := (HB1.out.cell 0).trans h00
  have f5 : W2.cell? ⟨w.heap.size, 67, none⟩ = some (.slice Ap Lp cp) := (HB1.out.cell 67).trans h05
  have g1 : (2000 : Int) < (N : Int) := by omega
  rw [← hC0]
  clear hC0 h00 h05 hby hdec hp hl hk2 hw0 hold hroot
  go_enter Tryd.func6, Tryd.ntmps6
  go_upto_region 1 with fail
  rw [← hW2]
  clear hW2
  go_wp2_with (go_at_call 10; refine HBY.out.mono ?_; rintro e w9 ⟨rfl, hw9⟩; subst hw9)
  go_ret
  exact ⟨rfl, HK2.out⟩
set_option maxRecDepth 100000 in
set_option maxHeartbeats 4000000 in
theorem chke_long2 (w : World) (m n : Int) (old root leaf : List Int) (hold : IsDig old) (hroot : IsDig root) (ofM ofN : Bool) (A : Option Addr) (N c : Nat) (pss : List (List Int)) (hl : pss.length = N) (hp : RdPartsO (fun _ => False) w A pss) (hNb : N ≤ 1048576)
    (Ap : Option Addr) (Lp cp : Nat) (hw0 : weigh pss < 2147483648) (hN : N ≤ 2000) (h : 2000 < Lp) :
    Calls Tryd.prog 6 #[.agg (claimV (.slice A N c) m n old root (.slice Ap Lp cp) ofM ofN).toArray, .agg (vb leaf).toArray] w fun e w' => e = .returned (.bool true) ∧ Keeps (fun _ => False) w w' := by
  obtain ⟨C0, hC0⟩ : ∃ C, C = claimV (.slice A N c) m n old root (.slice Ap Lp cp) ofM ofN := ⟨_, rfl⟩
  have h00 : C0[0]? = some (.slice A N c) := by rw [hC0]; rfl
  have h05 : C0[67]? = some (.slice Ap Lp cp) := by rw [hC0]; exact claimV_at _ _ _ _ _ _ hold.1 hroot.1 0
  obtain ⟨W2, hW2⟩ : ∃ W2, W2 = (w.alloc (.cells C0.toArray 50)).alloc (.cells (vb leaf).toArray 24) := ⟨_, rfl⟩
  have hk2 : Keeps (fun _ => False) w W2 := by rw [hW2]; exact ((Keeps.refl _ w).alloc _).alloc _
  have HB1 : Hid (Blk W2 w.heap.size 50 C0) := Lib.hid (by rw [hW2]; exact (Blk.new w _ _).alloc _)
  have HK2 := Lib.hid hk2
  have hby := beyond_any W2 A N c pss hl (hp.keep hk2 (fun _ h => h)) (by omega)
  have hdec : decide (2147483648 ≤ weigh pss) = false := decide_eq_false (by omega)
  rw [hdec] at hby
  have HBY := Lib.hid hby
  have f0 : W2.cell? ⟨w.heap.size, 0, none⟩ = some (.slice A N c) := (HB1.out.cell 0).trans h00
  have f5 : W2.cell? ⟨w.heap.size, 67, none⟩ = some (.slice Ap Lp cp) := (HB1.out.cell 67).trans h05
  have g1 : ¬ (2000 : Int) < (N : Int) := by omega
  have g2 : (2000 : Int) < (Lp : Int) := by omega
  rw [← hC0]
  clear hC0 h00 h05 hby hdec hp hl hk2 hw0 hold hroot
  go_enter Tryd.func6, Tryd.ntmps6
  go_upto_region 1 with fail
  rw [← hW2]
  clear hW2
  go_wp2_with (go_at_call 10; refine HBY.out.mono ?_; rintro e w9 ⟨rfl, hw9⟩; subst hw9)
  go_ret
  exact ⟨rfl, HK2.out⟩
set_option maxRecDepth 100000 in
set_option maxHeartbeats 4000000 in
theorem chke_off (w : World) (m n : Int) (old root leaf : List Int) (hold : IsDig old) (hroot : IsDig root) (ofM ofN : Bool) (A : Option Addr) (N c : Nat) (pss : List (List Int)) (hl : pss.length = N) (hp : RdPartsO (fun _ => False) w A pss) (hN : N ≤ 2000)
    (Ap : Option Addr) (Lp cp : Nat) (hLp : Lp ≤ 2000) (hw0 : weigh pss < 2147483648)
    (hset : ∀ W, Keeps (fun _ => False) w W → Calls Tryd.prog 25 #[.agg (claimV (.slice A N c) m n old root (.slice Ap Lp cp) ofM ofN).toArray] W fun e w' => ∃ B c', e = .returned (.tuple #[.agg (claimV (.slice A N c) m n old root (.slice Ap Lp cp) ofM ofN).toArray, .slice B N c', .bool false]) ∧ MineD W w' 23 B N c' (pss.map leafF)) :
    Calls Tryd.prog 6 #[.agg (claimV (.slice A N c) m n old root (.slice Ap Lp cp) ofM ofN).toArray, .agg (vb leaf).toArray] w fun e w' => e = .returned (.bool true) ∧ Keeps (fun _ => False) w w' := by
  obtain ⟨C0, hC0⟩ : ∃ C, C = claimV (.slice A N c) m n old root (.slice Ap Lp cp) ofM ofN := ⟨_, rfl⟩
  have h00 : C0[0]? = some (.slice A N c) := by rw [hC0]; rfl
  have h05 : C0[67]? = some (.slice Ap Lp cp) := by rw [hC0]; exact claimV_at _ _ _ _ _ _ hold.1 hroot.1 0
  obtain ⟨W2, hW2⟩ : ∃ W2, W2 = (w.alloc (.cells C0.toArray 50)).alloc (.cells (vb leaf).toArray 24) := ⟨_, rfl⟩
  have hk2 : Keeps (fun _ => False) w W2 := by rw [hW2]; exact ((Keeps.refl _ w).alloc _).alloc _
  have HB1 : Hid (Blk W2 w.heap.size 50 C0) := Lib.hid (by rw [hW2]; exact (Blk.new w _ _).alloc _)
  have HK2 := Lib.hid hk2
  have hby := beyond_any W2 A N c pss hl (hp.keep hk2 (fun _ h => h)) (by omega)
  have hdec : decide (2147483648 ≤ weigh pss) = false := decide_eq_false (by omega)
  rw [hdec] at hby
  have HBY := Lib.hid hby
  have f0 : W2.cell? ⟨w.heap.size, 0, none⟩ = some (.slice A N c) := (HB1.out.cell 0).trans h00
  have f5 : W2.cell? ⟨w.heap.size, 67, none⟩ = some (.slice Ap Lp cp) := (HB1.out.cell 67).trans h05
  have g1 : ¬ (2000 : Int) < (N : Int) := by omega
  have g2 : ¬ (2000 : Int) < (Lp : Int) := by omega
  have hl0 : C0.length = 70 := by rw [hC0]; exact claimV_length _ _ _ _ _ _ hold.1 hroot.1
  have hone : ∀ u ∈ C0, u.oneCell' = true := by rw [hC0]; exact claimV_one _ _ _ _ _ _ _ _ rfl rfl
  have HCI0 : Hid ((Tryd.prog.info? 50).map (·.size) = some C0.length) := Lib.hid (claimInfo hl0)
  have HC1 := Lib.hid hone
  rw [← hC0] at hset ⊢
  have HSE := Lib.hid hset
  clear hC0 h00 h05 hby hdec hp hl hk2 hw0 hold hroot hset hone hl0
  go_enter Tryd.func6, Tryd.ntmps6
  go_upto_region 1 with fail
  rw [← hW2]
  clear hW2
  go_wp2_with (first
    | (go_at_call 10; refine HBY.out.mono ?_; rintro e w9 ⟨rfl, hw9⟩; subst hw9)
    | ((with_reducible show wpList _ _ _ (⟨_, Op.load 50 _, _, _, _, _⟩ :: _) _ _); refine wpList_load_whole rfl 50 _ rfl _ rfl HB1.out Tryd.underlying50 rfl HCI0.out ?_)
    | (go_at_call 25; refine (HSE.out _ HK2.out).mono ?_; rintro e wS ⟨BS, cS, rfl, hmS⟩; have HMS := Lib.hid hmS; clear hmS)
    | ((with_reducible show wpList _ _ _ (⟨none, Op.store 50 _ _, _, _, _, _⟩ :: _) _ _); refine wpList_store_whole rfl 50 _ _ rfl C0 rfl rfl (HMS.out.2.2.2.1.blk HB1.out (fun h => h)) rfl HCI0.out HC1.out ?_))
  go_ret
  exact ⟨rfl, (HK2.out.trans HMS.out.2.2.2.1 (fun _ _ h => h)).setRow (.inr (Nat.le_refl _)) _⟩
set_option maxRecDepth 100000 in
set_option maxHeartbeats 4000000 in
theorem chke_core (w : World) (hG : Glob w) (m n : Int) (old root old' root' leaf : List Int) (hold : IsDig old) (hroot : IsDig root) (hold' : IsDig old') (hroot' : IsDig root') (hleaf : IsDig leaf) (ofM ofN : Bool) (A : Option Addr) (N c : Nat) (pss : List (List Int)) (hl : pss.length = N) (hp : RdPartsO (fun _ => False) w A pss) (hN : N ≤ 2000) (hcap : N ≤ c) (hsm : ∀ bs ∈ pss, bs.length ≤ 2147483648)
    (Ap : Option Addr) (Lp cp : Nat) (ps : List (List Int)) (hr : RdD w Ap Lp ps) (hLp : Lp ≤ 2000) (hw0 : weigh pss < 2147483648)
    (hset : ∀ W, Keeps (fun _ => False) w W → Calls Tryd.prog 25 #[.agg (claimV (.slice A N c) m n old root (.slice Ap Lp cp) ofM ofN).toArray] W fun e w' => ∃ B c', e = .returned (.tuple #[.agg (claimV (.slice A N c) m n old' root' (.slice Ap Lp cp) ofM ofN).toArray, .slice B N c', .bool true]) ∧ MineD W w' 23 B N c' (pss.map leafF))
    (hon : ofN = true → 0 ≤ n ∧ n ≤ (N : Int) ∧ root' = brootF ((pss.map leafF).take n.toNat)) :
    Calls Tryd.prog 6 #[.agg (claimV (.slice A N c) m n old root (.slice Ap Lp cp) ofM ofN).toArray, .agg (vb leaf).toArray] w fun e w' => e = .returned (.bool true) ∧ Keeps (fun _ => False) w w' := by
  by_cases hbad : n < 1 ∨ 9007199254740991 < n ∨ m < 0 ∨ n ≤ m
  · exact chke_not w m n old root old' root' leaf hold hroot hold' hroot' hleaf ofM ofN A N c pss hl hp hN Ap Lp cp ps hr hLp hw0 hset _ _ 2 (-1) (fun W => by kernel_rfl)
            (fun W A' c' _ _ _ => centry_arg W root' leaf n m A' Lp c' hbad)
            (fun W => tells_errno W 2 rfl)
            (fun W A' c' _ _ _ => (rentry_arg W root' leaf n m A' Lp c' hbad).mono fun e w' ⟨h1, h2⟩ => ⟨none, 0, 0, h1, h2⟩)
  · obtain ⟨i, rfl⟩ : ∃ k : Nat, m = k := ⟨m.toNat, by omega⟩
    obtain ⟨k, rfl⟩ : ∃ k : Nat, n = k := ⟨n.toNat, by omega⟩
    have hk9 : k ≤ 9007199254740991 := by omega
    have hik : i < k := by omega
    have hwl := way_len i k (by omega)
    by_cases hLe : Lp = (wayF i k).length
    · have hpl : ps.length = (wayF i k).length := hr.1.trans hLe
      have hcd : IsDig (climb1 leaf (wayF i k) ps) := climb1_dig _ _ _ hleaf hr.2.1
      by_cases hq : climb1 leaf (wayF i k) ps = root'
      · have HCK : ∀ (W : World) (A' : Option Addr) (c' : Nat), Keeps (fun _ => False) w W → RdD W A' Lp ps → Lp ≤ c' → Calls Tryd.prog 26 #[.agg (vb root').toArray, .int .i64 k, .int .i64 i, .agg (vb leaf).toArray, .slice A' Lp c'] W fun e w' => e = .returned .nilIface ∧ Keeps (fun _ => False) W w' := fun W A' c' hW hrW _ => by
          rw [hLe] at hrW ⊢
          exact centry_ok W (hG.keep hW (fun _ h => h.elim)) root' leaf hroot' hleaf k i hk9 hik A' c' ps hrW hq
        have HRE : ∀ (W : World) (A' : Option Addr) (c' : Nat), Keeps (fun _ => False) w W → RdD W A' Lp ps → Lp ≤ c' → Calls Tryd.prog 27 #[.agg (vb root').toArray, .int .i64 k, .int .i64 i, .agg (vb leaf).toArray, .slice A' Lp c'] W fun e w' => ∃ B nr c', e = .returned (.tuple #[.int .i64 0, .int .i64 0, .slice B nr c']) ∧ MineP W w' 22 B nr c' (upRows leaf (wayF i k) ps) := fun W A' c' _ hrW hcW =>
          (rentry_up_ok W root' leaf hroot' hleaf k i hk9 hik A' Lp c' ps hrW hcW hLe hq).mono fun e w' ⟨B, c2, h1, h2⟩ => ⟨B, Lp, c2, h1, h2⟩
        have HRK : ∀ (W : World) (A' : Option Addr) (c' : Nat), Keeps (fun _ => False) w W → RdD W A' Lp ps → Lp ≤ c' → Calls Tryd.prog 27 #[.agg (vb root').toArray, .int .i64 k, .int .i64 i, .agg (vb leaf).toArray, .slice A' Lp c'] W fun e w' => ∃ B nr c', e = .returned (.tuple #[.int .i64 0, .int .i64 0, .slice B nr c']) ∧ Keeps (fun _ => False) W w' := fun W A' c' hW hrW hcW =>
          (HRE W A' c' hW hrW hcW).mono fun e w' ⟨B, nr, c2, h1, h2⟩ => ⟨B, nr, c2, h1, h2.keeps⟩
        cases hof : ofN
        · subst hof
          exact chke_okf w i k old root old' root' leaf hold hroot hold' hroot' hleaf ofM false A N c pss hl hp hN Ap Lp cp ps hr hLp hw0 hset HCK (fun W => tells_nil W 0) HRK rfl
        · subst hof
          obtain ⟨_, hkN, hrt⟩ := hon rfl
          simp only [Int.toNat_natCast] at hrt
          have hkN' : k ≤ N := by omega
          obtain ⟨e0, he0⟩ : ∃ e, pss[i]? = some e := ⟨_, List.getElem?_eq_getElem (by omega)⟩
          have hd : (pss.map leafF)[(i : Int).toNat]? = some (leafF e0) := by rw [Int.toNat_natCast, List.getElem?_map, he0]; rfl
          by_cases hle : leaf = leafF e0
          · exact chke_eq w i k old root old' root' leaf hold hroot hold' hroot' hleaf ofM true A N c pss hl hp hN Ap Lp cp ps hr hLp hw0 hset HCK (fun W => tells_nil W 0) HRK rfl (by omega) (by omega) hkN (by omega) _ hd hle
          · have hex := entry_law k (pss.take k) (by rw [List.length_take]; omega) i leaf ps hik hleaf.1 (fun d hd => (hr.2.1 d hd).1) hpl (by rw [hq, hrt, List.map_take])
            have hex2 : Exc (upRows leaf (wayF i k) ps) (rowsF (pss.take k)) := by
              rcases hex with ⟨e, he, hE⟩ | hx
              · rw [List.getElem?_take, if_pos hik, he0] at he
                injection he with he
                subst he
                exact absurd hE hle
              · exact hx
            have hul : (upRows leaf (wayF i k) ps).length ≤ 1000 := by have := upRows_len (wayF i k) ps leaf; omega
            exact chke_neq w i k old root old' root' leaf hold hroot hold' hroot' hleaf ofM true A N c pss hl hp hN hcap hsm Ap Lp cp ps hr hLp hw0 hset HCK (fun W => tells_nil W 0) _ hul HRE rfl (by omega) (by omega) hkN (by omega) _ hd hle (by rw [Int.toNat_natCast]; exact hex2)
      · exact chke_not w i k old root old' root' leaf hold hroot hold' hroot' hleaf ofM ofN A N c pss hl hp hN Ap Lp cp ps hr hLp hw0 hset _ _ 271 (-1) (fun W => by kernel_rfl)
            (fun W A' c' hW hrW _ => by rw [hLe] at hrW ⊢; exact centry_not W (hG.keep hW (fun _ h => h.elim)) root' leaf hroot' hleaf k i hk9 hik A' c' ps hrW _ hcd hq rfl)
            (fun W => tells_errno W 271 rfl)
            (fun W A' c' _ hrW hcW => (rentry_up_no W root' leaf hroot' hleaf k i hk9 hik A' Lp c' ps hrW hcW hLe hq).mono fun e w' ⟨B, c2, h1, h2⟩ => ⟨B, Lp, c2, h1, h2.keeps⟩)
    · exact chke_not w i k old root old' root' leaf hold hroot hold' hroot' hleaf ofM ofN A N c pss hl hp hN Ap Lp cp ps hr hLp hw0 hset _ _ 270 ((wayF i k).length : Nat) (fun W => by kernel_rfl)
            (fun W A' c' _ _ _ => centry_len W root' leaf k i hk9 hik A' Lp c' hLe)
            (fun W => tells_spot W 270 _ rfl (by omega))
            (fun W A' c' _ _ _ => (rentry_len W root' leaf k i hk9 hik A' Lp c' hLe).mono fun e w' ⟨h1, h2⟩ => ⟨none, 0, 0, h1, h2⟩)
set_option maxRecDepth 100000 in
set_option maxHeartbeats 4000000 in
/-- THE LAW. -/
theorem chke_any (w : World) (hG : Glob w) (m n : Int) (old root leaf : List Int) (hold : IsDig old) (hroot : IsDig root) (hleaf : IsDig leaf) (ofM ofN : Bool) (A : Option Addr) (N c : Nat) (pss : List (List Int)) (hl : pss.length = N) (hp : RdPartsO (fun _ => False) w A pss) (hNb : N ≤ 1048576) (hcap : N ≤ c) (hfl : pss.flatten.length ≤ 1048576)
    (Ap : Option Addr) (Lp cp : Nat) (ps : List (List Int)) (hr : RdD w Ap Lp ps) :
    Calls Tryd.prog 6 #[.agg (claimV (.slice A N c) m n old root (.slice Ap Lp cp) ofM ofN).toArray, .agg (vb leaf).toArray] w fun e w' => e = .returned (.bool true) ∧ Keeps (fun _ => False) w w' := by
  have hw0 : weigh pss < 2147483648 := by unfold weigh; omega
  have hsm : ∀ bs ∈ pss, bs.length ≤ 2147483648 := fun bs hb => by
    have : bs.length ≤ pss.flatten.length := flat_mem hb
    omega
  by_cases hN : N ≤ 2000
  · by_cases hLp : Lp ≤ 2000
    · have hpk := fun (W : World) (hW : Keeps (fun _ => False) w W) => hp.keep hW (fun _ h => h)
      have hdO := fun k => dig_root ((digs_leaves pss).take k)
      have OFF := fun hset => chke_off w m n old root leaf hold hroot ofM ofN A N c pss hl hp hN Ap Lp cp hLp hw0 hset
      have CORE := fun old' root' hold' hroot' hset hon => chke_core w hG m n old root old' root' leaf hold hroot hold' hroot' hleaf ofM ofN A N c pss hl hp hN hcap hsm Ap Lp cp ps hr hLp hw0 hset hon
      cases ofN
      · cases ofM
        · exact CORE old root hold hroot (fun W hW => settled_ff W m n old root hold hroot _ rfl A N c pss hl (hpk W hW) hN hsm) (fun h => by cases h)
        · by_cases m1 : m < 0
          · exact OFF (fun W hW => settled_m1f W m n old root hold hroot _ rfl A N c pss hl (hpk W hW) hN hsm m1)
          · by_cases m2 : (N : Int) < m
            · exact OFF (fun W hW => settled_m2f W m n old root hold hroot _ rfl A N c pss hl (hpk W hW) hN hsm m1 m2)
            · exact CORE _ root (hdO m.toNat) hroot (fun W hW => settled_ft W m n old root hold hroot _ rfl A N c pss hl (hpk W hW) hN hsm m1 m2) (fun h => by cases h)
      · by_cases n1 : n < 0
        · cases ofM
          · exact OFF (fun W hW => settled_n1f W m n old root hold hroot _ rfl A N c pss hl (hpk W hW) hN hsm n1)
          · exact OFF (fun W hW => settled_n1t W m n old root hold hroot _ rfl A N c pss hl (hpk W hW) hN hsm n1)
        · by_cases n2 : (N : Int) < n
          · cases ofM
            · exact OFF (fun W hW => settled_n2f W m n old root hold hroot _ rfl A N c pss hl (hpk W hW) hN hsm n1 n2)
            · exact OFF (fun W hW => settled_n2t W m n old root hold hroot _ rfl A N c pss hl (hpk W hW) hN hsm n1 n2)
          · cases ofM
            · exact CORE old _ hold (hdO n.toNat) (fun W hW => settled_tf W m n old root hold hroot _ rfl A N c pss hl (hpk W hW) hN hsm n1 n2) (fun _ => ⟨by omega, by omega, rfl⟩)
            · by_cases m1 : m < 0
              · exact OFF (fun W hW => settled_m1t W m n old root hold hroot _ rfl A N c pss hl (hpk W hW) hN hsm n1 n2 m1)
              · by_cases m2 : (N : Int) < m
                · exact OFF (fun W hW => settled_m2t W m n old root hold hroot _ rfl A N c pss hl (hpk W hW) hN hsm n1 n2 m1 m2)
                · exact CORE _ _ (hdO m.toNat) (hdO n.toNat) (fun W hW => settled_tt W m n old root hold hroot _ rfl A N c pss hl (hpk W hW) hN hsm n1 n2 m1 m2) (fun _ => ⟨by omega, by omega, rfl⟩)
    · exact chke_long2 w m n old root leaf hold hroot ofM ofN A N c pss hl hp hNb Ap Lp cp hw0 hN (by omega)
  · exact chke_long1 w m n old root leaf hold hroot ofM ofN A N c pss hl hp hNb Ap Lp cp hw0 (by omega)
end Go.Proofs.YtknecjjdegngfaaDoor
