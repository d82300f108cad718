/-
  WALK: the statement BookProves.
-/
import Derived.Test.YtknecjjdegngfaaDoorProveW
import Derived.Test.YtknecjjdegngfaaDoorBookLongW
set_option linter.unusedSimpArgs false
namespace Go.Proofs.YtknecjjdegngfaaDoor
open Go Go.RowKit Go.Sha Go.Aff Go.Book
theorem weigh_geq (pss : List (List Int)) : pss.flatten.length + pss.length ≤ weigh pss := Nat.le_refl _
theorem rd_lt {w : World} {A : Option Addr} {n : Nat} {xs : List Value} (h : Rd w A n xs) {ad : Addr} (he : A = some ad) (hn : 0 < n) : ad.block < w.heap.size := by
  obtain ⟨g, o, e, hc⟩ := h.2 hn
  rw [he] at e
  injection e with e
  subst e
  have h0 := hc 0 hn
  rw [List.getElem?_eq_getElem (by rw [h.1]; exact hn)] at h0
  exact World.block_lt_of_cell? _ _ h0
/-- What came in is no block of a later book. -/
theorem parts_far {w w' : World} {A : Option Addr} {pss : List (List Int)} {F : Nat → Prop} (h : RdPartsO (fun _ => False) w A pss) (hF : ∀ i, F i → w.heap.size ≤ i) (hk : Keeps (fun _ => False) w w') : RdPartsO F w' A pss := by
  obtain ⟨vals, h1, h2, h3⟩ := h
  refine ⟨vals, h1.keep hk (no_out _ _), fun hn ad he hf => ?_, fun i bs hi => ?_⟩
  · have := rd_lt h1 he hn
    have := hF _ hf
    omega
  · obtain ⟨A', c', q1, q2, _, q4, q5, q6⟩ := h3 i bs hi
    refine ⟨A', c', q1, q2.keep hk (no_out _ _), fun hn ad he hf => ?_, q4, q5, q6⟩
    have := rd_lt q2 he hn
    have := hF _ hf
    omega
set_option maxRecDepth 100000 in
set_option maxHeartbeats 2000000 in
theorem proves_big (w : World) (A : Option Addr) (N c : Nat) (pss : List (List Int)) (hm : pss.length = N) (hp : RdPartsO (fun _ => False) w A pss) (hmb : N ≤ 140737488355328) (i n : Int) (hbig : 2147483648 ≤ weigh pss) :
    Calls Tryd.prog 9 #[.slice A N c, .int .i64 i, .int .i64 n] w fun e w' => e = .returned (.bool true) ∧ Keeps (fun _ => False) w w' := by
  have hbe := beyond_any w A N c pss hm hp hmb
  rw [decide_eq_true hbig] at hbe
  have HBE := Lib.hid hbe
  clear hbe hp hm hbig
  go_enter Tryd.func9, Tryd.ntmps9
  go_wp2_with (go_at_call 10; refine HBE.out.mono ?_; rintro e w1 ⟨rfl, hw1⟩; have hw0 := hw1.symm; clear hw1; subst hw0)
  go_ret
  exact ⟨rfl, Keeps.refl _ _⟩
set_option maxRecDepth 100000 in
set_option maxHeartbeats 4000000 in
theorem proves_off (w : World) (A : Option Addr) (N c : Nat) (pss : List (List Int)) (hm : pss.length = N) (hp : RdPartsO (fun _ => False) w A pss) (i n : Int) (hsm : weigh pss < 2147483648) (hoff : 2000 < (N : Int) ∨ (¬ 2000 < (N : Int) ∧ n < 1) ∨ (¬ 2000 < (N : Int) ∧ ¬ n < 1 ∧ (N : Int) < n) ∨ (¬ 2000 < (N : Int) ∧ ¬ n < 1 ∧ ¬ (N : Int) < n ∧ i < 0) ∨ (¬ 2000 < (N : Int) ∧ ¬ n < 1 ∧ ¬ (N : Int) < n ∧ ¬ i < 0 ∧ n ≤ i)) :
    Calls Tryd.prog 9 #[.slice A N c, .int .i64 i, .int .i64 n] w fun e w' => e = .returned (.bool true) ∧ Keeps (fun _ => False) w w' := by
  have hwl := weigh_geq pss
  have hbe := beyond_any w A N c pss hm hp (by omega)
  rw [decide_eq_false (by omega)] at hbe
  have HBE := Lib.hid hbe
  clear hbe hp hm hsm hwl
  rcases hoff with h1 | ⟨h1, h2⟩ | ⟨h1, h2, h3⟩ | ⟨h1, h2, h3, h4⟩ | ⟨h1, h2, h3, h4, h5⟩
  all_goals
    go_enter Tryd.func9, Tryd.ntmps9
    go_wp2_with (go_at_call 10; refine HBE.out.mono ?_; rintro e w1 ⟨rfl, hw1⟩; have hw0 := hw1.symm; clear hw1; subst hw0)
    go_ret
    exact ⟨rfl, Keeps.refl _ _⟩
set_option maxRecDepth 100000 in
set_option maxHeartbeats 4000000 in
theorem proves_long (w : World) (A : Option Addr) (N c : Nat) (pss : List (List Int)) (hm : pss.length = N) (hp : RdPartsO (fun _ => False) w A pss) (i n : Nat) (hsm : weigh pss < 2147483648) (hN : N ≤ 2000) (hn1 : 1 ≤ n) (hnN : n ≤ N) (hin : i < n) (hlong : (∃ bs ∈ pss, 1048576 < bs.length) ∨ 16777216 < ((pss.flatten.length : Nat) : Int)) :
    Calls Tryd.prog 9 #[.slice A N c, .int .i64 i, .int .i64 n] w fun e w' => e = .returned (.bool true) ∧ Keeps (fun _ => False) w w' := by
  have hwl := weigh_geq pss
  have hbe := beyond_any w A N c pss hm hp (by omega)
  rw [decide_eq_false (by omega)] at hbe
  have HBE := Lib.hid hbe
  have HNW := Lib.hid (bnew_any w)
  have HAP : Hid (∀ W, Keeps (fun _ => False) w W → BookAt W w.heap.size (.slice none 0 0) (.slice none 0 0) [] 0 → Calls Tryd.prog 33 #[.pointer (some ⟨w.heap.size, 0, none⟩), .slice A N c] W fun e w' => e = .returned (.tuple #[.int .i64 0, errno 3]) ∧ w' = W) := Lib.hid fun W hW hb => by
    have h9 := Append_long W w.heap.size _ _ [] 0 hb A c pss (hp.keep hW (fun _ h => h)) (by omega) (by omega) (by simp) (by omega) (by omega) (by
      rcases hlong with h | h
      · exact .inl h
      · exact .inr (.inl (by omega)))
    rwa [hm] at h9
  have n0 : ¬ (2000 : Int) < (N : Int) := by omega
  have n1 : ¬ (n : Int) < 1 := by omega
  have n2 : ¬ (N : Int) < (n : Int) := by omega
  have n3 : ¬ (i : Int) < 0 := by omega
  have n4 : ¬ (n : Int) ≤ (i : Int) := by omega
  clear hbe hp hm hsm hwl hlong
  go_enter Tryd.func9, Tryd.ntmps9
  go_wp2_with (first
    | (go_at_call 10; refine HBE.out.mono ?_; rintro e w1 ⟨rfl, hw1⟩; have hw0 := hw1.symm; clear hw1; subst hw0)
    | (go_at_call 41; refine HNW.out.mono ?_; rintro e w2 ⟨rfl, hb2, hk2⟩; have ha := HAP.out w2 hk2 hb2; have HA := Lib.hid ha; have HK2 := Lib.hid hk2; clear hb2 hk2 ha)
    | (go_at_call 33; refine HA.out.mono ?_; rintro e w3 ⟨rfl, hw1⟩; have hw0 := hw1.symm; clear hw1; subst hw0)
    | (go_at_call 22; refine (tells_errno _ 3 rfl).mono ?_; rintro e w5 ⟨rfl, hk5⟩; have HK5 := Lib.hid (HK2.out.trans hk5 (fun _ _ h => h)); clear hk5))
  go_ret
  exact ⟨rfl, HK5.out⟩
set_option maxRecDepth 100000 in
set_option maxHeartbeats 16000000 in
theorem proves_main (w : World) (hG : Glob w) (A : Option Addr) (N c : Nat) (pss : List (List Int)) (hm : pss.length = N) (hp : RdPartsO (fun _ => False) w A pss) (i n : Nat) (hsm : weigh pss < 2147483648) (hN : N ≤ 2000) (hn1 : 1 ≤ n) (hnN : n ≤ N) (hin : i < n) (hfit : ∀ bs ∈ pss, bs.length ≤ 1048576) (hsum : ((pss.flatten.length : Nat) : Int) ≤ 16777216) :
    Calls Tryd.prog 9 #[.slice A N c, .int .i64 i, .int .i64 n] w fun e w' => e = .returned (.bool true) ∧ Keeps (fun _ => False) w w' := by
  have hwl := weigh_geq pss
  have hbe := beyond_any w A N c pss hm hp (by omega)
  rw [decide_eq_false (by omega)] at hbe
  have HBE := Lib.hid hbe
  have HNW := Lib.hid (bnew_any w)
  obtain ⟨bs, hbs⟩ : ∃ bs, pss[i]? = some bs := ⟨_, List.getElem?_eq_getElem (by omega)⟩
  obtain ⟨lsn, hlsn⟩ : ∃ l, l = (pss.map leafF).take n := ⟨_, rfl⟩
  have hdl : IsDigs lsn := by rw [hlsn]; exact (digs_leaves pss).take n
  have hln : lsn.length = n := by rw [hlsn, List.length_take, List.length_map, hm]; omega
  have hli : lsn[i]? = some (leafF bs) := by rw [hlsn, List.getElem?_take, if_pos hin, List.getElem?_map, hbs]; rfl
  have hlm : (pss.map leafF).take (i + 1) = lsn.take (i + 1) := by rw [hlsn, List.take_take, Nat.min_eq_left (by omega)]
  obtain ⟨RV, hRV⟩ : ∃ V, V = vb (brootF lsn) := ⟨_, rfl⟩
  obtain ⟨OV, hOV⟩ : ∃ V, V = vb (brootF (lsn.take (i + 1))) := ⟨_, rfl⟩
  obtain ⟨EV, hEV⟩ : ∃ V, V = vb (leafF bs) := ⟨_, rfl⟩
  have hdr := dig_root hdl
  have hdo := dig_root (hdl.take (i + 1))
  have HRL : Hid (RV.length = 32) := Lib.hid (by rw [hRV, vb_length]; exact hdr.1)
  have HOL : Hid (OV.length = 32) := Lib.hid (by rw [hOV, vb_length]; exact hdo.1)
  have HR1 : Hid (∀ u ∈ RV, u.oneCell' = true) := Lib.hid (by rw [hRV]; exact vb_one _)
  have HO1 : Hid (∀ u ∈ OV, u.oneCell' = true) := Lib.hid (by rw [hOV]; exact vb_one _)
  have HRI : Hid ((Tryd.prog.info? 24).map (·.size) = some RV.length) := Lib.hid (by rw [HRL.out]; kernel_rfl)
  have HOI : Hid ((Tryd.prog.info? 24).map (·.size) = some OV.length) := Lib.hid (by rw [HOL.out]; kernel_rfl)
  have HEQ : Hid (∀ W, (Op.equalIn 10000 24 (.agg RV.toArray) (.agg RV.toArray)).run Tryd.prog W = .ok true W) := Lib.hid fun W => by rw [hRV]; exact eql_in (dig_self _ hdr.1 W)
  have HAP : Hid (∀ W, Keeps (fun _ => False) w W → BookAt W w.heap.size (.slice none 0 0) (.slice none 0 0) [] 0 → Calls Tryd.prog 33 #[.pointer (some ⟨w.heap.size, 0, none⟩), .slice A N c] W fun e w' => e = .returned (.tuple #[.int .i64 0, .nilIface]) ∧ ∃ u l y, BookAt w' w.heap.size u l pss y ∧ Keeps (fun _ => False) w w') := Lib.hid fun W hW hb => by
    have h2 := hG.lt
    have h9 := Append_ok W (hG.keep hW (fun _ h => h.elim)) w.heap.size _ _ [] 0 hb (fun j hj => by have := foot_new hj; omega) A c pss (parts_far hp (fun j hj => by have := foot_new hj; omega) hW) hfit (by omega) (by omega) (by simp; omega)
    rw [hm] at h9
    refine h9.mono fun e w' ⟨he, u, l, q1, q2, _, _⟩ => ⟨he, u, l, _, q1, hW.trans q2 (fun j hj hf => by have := foot_new hf; omega)⟩
  have HBK : Hid (∀ w3 u l y, BookAt w3 w.heap.size u l pss y → Keeps (fun _ => False) w w3 → ∀ W, Keeps (fun _ => False) w3 W →
      (Calls Tryd.prog 35 #[.pointer (some ⟨w.heap.size, 0, none⟩), .int .i64 n] W fun e w' => e = .returned (.tuple #[.agg RV.toArray, .nilIface]) ∧ Keeps (fun _ => False) W w') ∧
      (Calls Tryd.prog 35 #[.pointer (some ⟨w.heap.size, 0, none⟩), .int .i64 ((i : Int) + 1)] W fun e w' => e = .returned (.tuple #[.agg OV.toArray, .nilIface]) ∧ Keeps (fun _ => False) W w') ∧
      (Calls Tryd.prog 34 #[.pointer (some ⟨w.heap.size, 0, none⟩), .int .i64 i] W fun e w' => ∃ A' c', e = .returned (.tuple #[.slice A' bs.length c', .nilIface]) ∧ Rd w' A' bs.length (vb bs) ∧ bs.length ≤ c' ∧ Keeps (fun _ => False) W w') ∧
      (Calls Tryd.prog 36 #[.pointer (some ⟨w.heap.size, 0, none⟩), .int .i64 i, .int .i64 n] W fun e w' => ∃ A' L c', e = .returned (.tuple #[.slice A' L c', .nilIface]) ∧ MineD W w' 24 A' L c' (standsG emptyF pairF i lsn)) ∧
      (Calls Tryd.prog 37 #[.pointer (some ⟨w.heap.size, 0, none⟩), .int .i64 ((i : Int) + 1), .int .i64 n] W fun e w' => ∃ A' L c', e = .returned (.tuple #[.slice A' L c', .nilIface]) ∧ MineD W w' 24 A' L c' (growG emptyF pairF (i + 1) lsn true)) ∧
      (Calls Tryd.prog 38 #[.pointer (some ⟨w.heap.size, 0, none⟩), .int .i64 n] W fun e w' => ∃ A' L c', e = .returned (.tuple #[.slice A' L c', .nilIface]) ∧ MineD W w' 24 A' L c' (peaksG emptyF pairF lsn))) := Lib.hid fun w3 u l y hb hk3 W hW => by
    have hbW := hb.keep hW
    have hGW := hG.keep (hk3.trans hW (fun _ _ h => h)) (fun _ h => h.elim)
    have ei : ((i : Int) + 1) = ((i + 1 : Nat) : Int) := by omega
    refine ⟨?_, ?_, bentry_ok W _ u l pss y hbW i bs hbs, ?_, ?_, ?_⟩
    · have h9 := broots_ok W hGW _ u l pss y hbW (n : Int) (by omega) (by omega) (by omega)
      rw [Int.toNat_natCast, ← hlsn, ← hRV] at h9
      exact h9
    · have h9 := broots_ok W hGW _ u l pss y hbW ((i + 1 : Nat) : Int) (by omega) (by omega) (by omega)
      rw [Int.toNat_natCast, hlm, ← hOV] at h9
      rw [ei]; exact h9
    · have h9 := bstand_ok W hGW _ u l pss y hbW i n hin (by omega) (by omega)
      rw [← hlsn] at h9
      exact h9
    · have h9 := bgrow_ok W hGW _ u l pss y hbW (i + 1) n (by omega) (by omega) (by omega) (by omega)
      rw [← hlsn] at h9
      rw [ei]; exact h9
    · have h9 := bpeaks_ok W hGW _ u l pss y hbW n (by omega) (by omega)
      rw [← hlsn] at h9
      exact h9
  have HCHK : Hid (∀ W, Keeps (fun _ => False) w W →
      (∀ A' L c', RdD W A' L (standsG emptyF pairF i lsn) → Calls Tryd.prog 26 #[.agg RV.toArray, .int .i64 n, .int .i64 i, .agg EV.toArray, .slice A' L c'] W fun e w' => e = .returned .nilIface ∧ Keeps (fun _ => False) W w') ∧
      (∀ A' L c', RdD W A' L (growG emptyF pairF (i + 1) lsn true) → L ≤ c' → Calls Tryd.prog 30 #[.int .i64 ((i : Int) + 1), .agg OV.toArray, .int .i64 n, .agg RV.toArray, .slice A' L c'] W fun e w' => e = .returned .nilIface ∧ Keeps (fun _ => False) W w') ∧
      (∀ A' L c', RdD W A' L (peaksG emptyF pairF lsn) → Calls Tryd.prog 19 #[.int .i64 n, .slice A' L c'] W fun e w' => e = .returned (.tuple #[.agg RV.toArray, .nilIface]) ∧ Keeps (fun _ => False) W w') ∧
      (∀ A' c', Rd W A' bs.length (vb bs) → bs.length ≤ c' → Calls Tryd.prog 11 #[.slice A' bs.length c'] W fun e w' => e = .returned (.agg EV.toArray) ∧ Keeps (fun _ => False) W w')) := Lib.hid fun W hW => by
    have hGW := hG.keep hW (fun _ h => h.elim)
    have ei : ((i : Int) + 1) = ((i + 1 : Nat) : Int) := by omega
    have hbb : IsBytes bs ∧ bs.length ≤ 1048576 := by
      obtain ⟨vals, _, _, h3⟩ := hp
      obtain ⟨_, _, _, _, _, q4, _⟩ := h3 i bs hbs
      exact ⟨q4, hfit bs (List.mem_of_getElem? hbs)⟩
    rw [hRV, hOV, hEV, ei]
    exact ⟨fun A' L c' hr => cstands_any W hGW lsn hdl n i hln (by omega) _ hli A' L c' hr, fun A' L c' hr hc => cgrown_any W hGW lsn hdl n (i + 1) hln (by omega) (by omega) (by omega) A' L c' hr hc, fun A' L c' hr => fpeaks_any W hGW lsn n hln (by omega) A' L c' hr,
      fun A' c' hr hc => leaf_any W hGW A' bs.length c' bs rfl hr hbb.1 hc (by omega)⟩
  have HSTR : Hid (∀ W A' c', Rd W A' bs.length (vb bs) → (convert 22 9 (.slice A' bs.length c')).run Tryd.prog W = .ok (.string (strOfNums bs)) W) := Lib.hid fun W A' c' hr => convert_rd W Tryd.underlying22 Tryd.underlying5 Tryd.underlying9 c' hr
  obtain ⟨g, o, Ab, cb, hAe, HENT⟩ : ∃ g o Ab cb, A = some ⟨g, o, none⟩ ∧ Hid (∀ W, Keeps (fun _ => False) w W → W.cell? ⟨g, o + i, none⟩ = some (.slice Ab bs.length cb) ∧ Rd W Ab bs.length (vb bs)) := by
    obtain ⟨vals, h1, h2, h3⟩ := hp
    obtain ⟨g, o, e, hc⟩ := h1.2 (by omega)
    obtain ⟨Ab, cb, q1, q2, _⟩ := h3 i bs hbs
    refine ⟨g, o, Ab, cb, e, Lib.hid fun W hW => ⟨?_, q2.keep hW (no_out _ _)⟩⟩
    obtain ⟨g', o', e', hc'⟩ := (h1.keep hW (no_out _ _)).2 (by omega)
    rw [e] at e'
    injection e' with e'
    injection e' with e1 e2
    subst e1 e2
    exact (hc' i (by omega)).trans q1
  subst hAe
  have HSB : Hid (∀ b, n ≤ 2 ^ b → (standsG emptyF pairF i lsn).length ≤ b ∧ (growG emptyF pairF (i + 1) lsn true).length ≤ b + 1) := Lib.hid fun b hb => ⟨stands_bits lsn i b (by omega), grow_bits lsn (i + 1) b (by omega) (by omega) (by omega)⟩
  obtain ⟨S1, hS1⟩ : ∃ S, S = standsG emptyF pairF i lsn := ⟨_, rfl⟩
  obtain ⟨S2, hS2⟩ : ∃ S, S = growG emptyF pairF (i + 1) lsn true := ⟨_, rfl⟩
  obtain ⟨S3, hS3⟩ : ∃ S, S = peaksG emptyF pairF lsn := ⟨_, rfl⟩
  rw [← hS1, ← hS2] at HSB
  rw [← hS1, ← hS2, ← hS3] at HBK HCHK
  obtain ⟨nb, hnb⟩ : ∃ k, k = bs.length := ⟨_, rfl⟩
  rw [← hnb] at HBK HCHK HSTR HENT
  have n0 : ¬ (2000 : Int) < (N : Int) := by omega
  have n1 : ¬ (n : Int) < 1 := by omega
  have n2 : ¬ (N : Int) < (n : Int) := by omega
  have n3 : ¬ (i : Int) < 0 := by omega
  have n4 : ¬ (n : Int) ≤ (i : Int) := by omega
  have n5 : i < N := by omega
  have n6 : (i : Int) < (N : Int) := by omega
  have wi : IntKind.i64.wrap ((i : Int) + 1) = (i : Int) + 1 := IntWalk.i64_in _ (by omega)
  have wn : IntKind.i64.wrap ((n : Int) - 1) = (n : Int) - 1 := IntWalk.i64_in _ (by omega)
  have HZF := Lib.hid fun W => Blk.new W 24 (List.replicate 32 (Value.int .u8 0))
  clear hbe hp hm hsm hwl hfit hsum hbs hlsn hdl hln hli hlm hRV hOV hEV hdr hdo hS1 hS2 hS3 hnb hG
  go_enter Tryd.func9, Tryd.ntmps9
  have tkA : True := trivial
  have tkB : True := trivial
  go_wp2_with (first
    | (go_at_call 10; refine HBE.out.mono ?_; rintro e w1 ⟨rfl, hw1⟩; have hw0 := hw1.symm; clear hw1; subst hw0)
    | (go_at_call 41; refine HNW.out.mono ?_; rintro e w2 ⟨rfl, hb2, hk2⟩; have ha := HAP.out w2 hk2 hb2; have HA := Lib.hid ha; clear hb2 hk2 ha)
    | (go_at_call 33; refine HA.out.mono ?_; rintro e w3 ⟨rfl, u3, l3, y3, hb3, hk3⟩; have hall := HBK.out w3 u3 l3 y3 hb3 hk3; have HALL := Lib.hid hall; have HK3 := Lib.hid hk3; clear hb3 hk3 hall)
    | (go_at_call 22; refine (tells_not _ 3 (-1) rfl (by omega)).mono ?_; rintro e w4 ⟨rfl, hk4⟩; have HK4 := Lib.hid hk4; clear hk4)
    | (go_at_call 35; have _t := tkA; clear tkA; refine (HALL.out _ HK4.out).1.mono ?_; rintro e w5 ⟨rfl, hk5⟩; have HK5 := Lib.hid (HK4.out.trans hk5 (fun _ _ h => h)); clear hk5)
    | ((with_reducible show wpList _ _ _ (⟨none, Op.store 24 (.tmp 11) _, _, _, _, _⟩ :: _) _ _); refine wpList_store_whole rfl 24 _ _ rfl RV rfl rfl (HZF.out w5) (by rw [HRL.out]; simp) HRI.out HR1.out ?_; refine gen_world (fun W => Blk W w5.heap.size 24 RV ∧ Keeps (fun _ => False) w3 W) ⟨(HZF.out w5).setRow RV, (HK5.out.alloc _).setRow (.inr HK5.out.size) _⟩ ?_; rintro w6 ⟨hb6, hk6⟩; have HB6 := Lib.hid hb6; have HK6 := Lib.hid hk6; clear hb6 hk6)
    | (go_at_call 35; have _t := tkB; clear tkB; refine (HALL.out _ HK6.out).2.1.mono ?_; rintro e w7 ⟨rfl, hk7⟩; have HB7 := Lib.hid (hk7.blk HB6.out (fun h => h)); have HK7 := Lib.hid (HK6.out.trans hk7 (fun _ _ h => h)); clear hk7)
    | ((with_reducible show wpList _ _ _ (⟨none, Op.store 24 (.tmp 13) _, _, _, _, _⟩ :: _) _ _); refine wpList_store_whole rfl 24 _ _ rfl OV rfl rfl (HZF.out w7) (by rw [HOL.out]; simp) HOI.out HO1.out ?_; refine gen_world (fun W => Blk W w5.heap.size 24 RV ∧ Blk W w7.heap.size 24 OV ∧ Keeps (fun _ => False) w3 W) ⟨(HB7.out.alloc _).setRow_far (by have := HB7.out.lt; omega) _, (HZF.out w7).setRow OV, (HK7.out.alloc _).setRow (.inr HK7.out.size) _⟩ ?_; rintro w8 ⟨hb8, hc8, hk8⟩; have HB8 := Lib.hid hb8; have HC8 := Lib.hid hc8; have HK8 := Lib.hid hk8; clear hb8 hc8 hk8)
    | (go_at_call 34; refine (HALL.out _ HK8.out).2.2.1.mono ?_; rintro e w9 ⟨Ae, ce, rfl, hre, hce, hk9⟩; have HRE := Lib.hid hre; have HKK9 := Lib.hid hk9; have HK9 := Lib.hid (HK8.out.trans hk9 (fun _ _ h => h)); clear hre hk9)
    | (go_at_call 36; refine (HALL.out _ HK9.out).2.2.2.1.mono ?_; rintro e wA ⟨Ap, Lp, cp, rfl, hma⟩; have HMA := Lib.hid hma; have HKA := Lib.hid (HK9.out.trans hma.2.2.2.1 (fun _ _ h => h)); clear hma)
    | (go_at_call 37; refine (HALL.out _ HKA.out).2.2.2.2.1.mono ?_; rintro e wB ⟨Aq, Lq, cq, rfl, hmb⟩; have HMB := Lib.hid hmb; have HKB := Lib.hid (HKA.out.trans hmb.2.2.2.1 (fun _ _ h => h)); clear hmb)
    | (go_at_call 38; refine (HALL.out _ HKB.out).2.2.2.2.2.mono ?_; rintro e wC ⟨Ak, Lk, ck, rfl, hmc⟩; have HMC := Lib.hid hmc; have HKC := Lib.hid (HKB.out.trans hmc.2.2.2.1 (fun _ _ h => h)); clear hmc))
  have hk9C : Keeps (fun _ => False) w9 wC := (HMA.out.2.2.2.1.trans HMB.out.2.2.2.1 (fun _ _ h => h)).trans HMC.out.2.2.2.1 (fun _ _ h => h)
  have hkBC := HMC.out.2.2.2.1
  have HREC := Lib.hid (HRE.out.keep hk9C (no_out _ _))
  have hwC := HK3.out.trans HKC.out (fun _ _ h => h)
  have cellE := (HENT.out wC hwC).1
  have cv1 := fun k => HSTR.out (wC.drewN k) Ae ce (HREC.out.keep ((Keeps.refl (fun _ => False) wC).drewN k) (no_out _ _))
  have cv2 := fun k => HSTR.out (wC.drewN k) Ab cb (HENT.out (wC.drewN k) (hwC.drewN k)).2
  have HKWC := Lib.hid hwC
  have HB8C := Lib.hid ((HKK9.out.trans hk9C (fun _ _ h => h)).blk HB8.out (fun h => h))
  have HC8C := Lib.hid ((HKK9.out.trans hk9C (fun _ _ h => h)).blk HC8.out (fun h => h))
  have HRA := Lib.hid (HMA.out.rd.keep (HMB.out.2.2.2.1.trans HMC.out.2.2.2.1 (fun _ _ h => h)) (no_out _ _))
  have HRB := Lib.hid (HMB.out.rd.keep hkBC (no_out _ _))
  have HRC := Lib.hid HMC.out.rd
  have hqc := HMB.out.le
  clear hk9C hkBC hwC
  refine wp_region_quiet_lit (by kernel_rfl) (by kernel_rfl) ?_
  repeat (go_big_quiet_step (fail))
  refine wpQuiet_nil ?_
  intro _ hw'
  obtain ⟨nq, rfl⟩ := hw'
  clear cellE cv1 cv2
  go_wp2
  go_loop [23] (fun b => ∃ k : Nat, k ≤ 11 ∧ b = .int .i64 k) (fun b => 12 - (intOf b).toNat)
  case atStart => exact ⟨0, by omega, rfl⟩
  case round =>
    obtain ⟨k, hk, rfl⟩ := hrel
    have hp2 : (2 : Int) ^ k ≤ 2 ^ 11 := by exact_mod_cast Nat.pow_le_pow_right (by omega) hk
    have hp0 : (0 : Int) ≤ 2 ^ k := by exact_mod_cast Nat.zero_le _
    have wk : IntKind.i64.wrap ((2 : Int) ^ k) = 2 ^ k := IntWalk.i64_in _ (by omega)
    by_cases hle : (2 : Int) ^ k ≤ (n : Int) - 1
    · have hk10 : k + 1 ≤ 11 := by
        rcases Nat.lt_or_ge k 11 with h | h
        · omega
        · obtain rfl : k = 11 := by omega
          exact absurd hle (by omega)
      go_wp2
      go_round
      case rel => exact ⟨k + 1, hk10, by go_num⟩
      case measure => simp [intOf]; omega
    · have hnk : n ≤ 2 ^ k := by
        have h9 : (n : Int) ≤ 2 ^ k := by omega
        exact_mod_cast h9
      have hsb := HSB.out k hnk
      rw [HRA.out.1, HRB.out.1] at hsb
      obtain ⟨hlp, hlq⟩ := hsb
      have hlpi : (Lp : Int) ≤ (k : Int) := by omega
      have hlqi : (Lq : Int) ≤ (k : Int) + 1 := by omega
      have wk1 : IntKind.i64.wrap ((k : Int) + 1) = (k : Int) + 1 := IntWalk.i64_in _ (by omega)
      have hfo := (HCHK.out (wC.drewN nq) (HKWC.out.drewN nq)).2.2.1 Ak Lk ck (HRC.out.keep ((Keeps.refl (fun _ => False) wC).drewN nq) (no_out _ _))
      have HFO := Lib.hid hfo
      clear hp2 hp0 hnk hfo
      go_wp2_with (first
        | (go_at_call 19; refine HFO.out.mono ?_; rintro e wD ⟨rfl, hkD⟩; have HKD := Lib.hid (((Keeps.refl (fun _ => False) wC).drewN nq).trans hkD (fun _ _ h => h)); clear hkD)
        | ((with_reducible show wpList _ _ _ (⟨none, Op.store 24 (.tmp 24) _, _, _, _, _⟩ :: _) _ _); refine wpList_store_whole rfl 24 _ _ rfl RV rfl rfl (HZF.out wD) (by rw [HRL.out]; simp) HRI.out HR1.out ?_; refine gen_world (fun W => Blk W wD.heap.size 24 RV ∧ Keeps (fun _ => False) wC W) ⟨(HZF.out wD).setRow RV, (HKD.out.alloc _).setRow (.inr HKD.out.size) _⟩ ?_; rintro w14 ⟨hb14, hk14⟩; have HB14 := Lib.hid hb14; have HK14 := Lib.hid hk14; clear hb14 hk14))
      have HRG : Hid (∀ W, Keeps (fun _ => False) w14 W → W.rangeAt w5.heap.size 0 RV) := Lib.hid fun W hW j v hv => by rw [Nat.zero_add, (hW.blk (HK14.out.blk HB8C.out (fun h => h)) (fun h => h)).cell, hv]
      have HOG : Hid (∀ W, Keeps (fun _ => False) w14 W → W.rangeAt w7.heap.size 0 OV) := Lib.hid fun W hW j v hv => by rw [Nat.zero_add, (hW.blk (HK14.out.blk HC8C.out (fun h => h)) (fun h => h)).cell, hv]
      have HDG : Hid (∀ W, Keeps (fun _ => False) w14 W → W.rangeAt wD.heap.size 0 RV) := Lib.hid fun W hW j v hv => by rw [Nat.zero_add, (hW.blk HB14.out (fun h => h)).cell, hv]
      have hWW : ∀ W, Keeps (fun _ => False) w14 W → Keeps (fun _ => False) w W := fun W hW => (HKWC.out.trans HK14.out (fun _ _ h => h)).trans hW (fun _ _ h => h)
      have hCW : ∀ W, Keeps (fun _ => False) w14 W → Keeps (fun _ => False) wC W := fun W hW => HK14.out.trans hW (fun _ _ h => h)
      have HLF : Hid (∀ W, Keeps (fun _ => False) w14 W → _) := Lib.hid fun W hW => (HCHK.out W (hWW W hW)).2.2.2 Ae ce (HREC.out.keep (hCW W hW) (no_out _ _)) hce
      have HCE : Hid (∀ W, Keeps (fun _ => False) w14 W → _) := Lib.hid fun W hW => (HCHK.out W (hWW W hW)).1 Ap Lp cp (HRA.out.keep (hCW W hW) (no_out _ _))
      have HCG : Hid (∀ W, Keeps (fun _ => False) w14 W → _) := Lib.hid fun W hW => (HCHK.out W (hWW W hW)).2.1 Aq Lq cq (HRB.out.keep (hCW W hW) (no_out _ _)) hqc
      have hw14 := hWW w14 (Keeps.refl _ _)
      have HW14 := Lib.hid hw14
      clear hWW hCW hw14
      refine wp_region_held_drew (S := Keeps (fun _ => False) w14) (by kernel_rfl) (Keeps.refl (fun _ => False) _).drew (fun hHeld => ?_)
      refine wpAnyH_take (i := 0) (oi := ⟨some 156, _, _, _, _, _⟩) (v := ?_) rfl (by kernel_rfl) (by kernel_rfl) (by kernel_rfl) (fun _ _ _ h => h) (Or.inl ⟨by rfl, ?_⟩) hHeld ?_
      rotate_left
      · intro w' hSw
        go_simp
        first | done | rfl
      try simp only [Act.put, List.setIfInBounds_toArray, List.set_cons_zero, List.set_cons_succ]
      refine wpAnyH_take (i := 1) (oi := ⟨some 157, _, _, _, _, _⟩) (v := ?_) rfl (by kernel_rfl) (by kernel_rfl) (by kernel_rfl) (fun _ _ _ h => h) (Or.inl ⟨by rfl, ?_⟩) hHeld ?_
      rotate_left
      · intro w' hSw
        go_simp
        first | done | rfl
      try simp only [Act.put, List.setIfInBounds_toArray, List.set_cons_zero, List.set_cons_succ]
      refine wpAnyH_take (i := 2) (oi := ⟨some 158, _, _, _, _, _⟩) (v := ?_) rfl (by kernel_rfl) (by kernel_rfl) (by kernel_rfl) (fun _ _ _ h => h) (Or.inl ⟨by rfl, ?_⟩) hHeld ?_
      rotate_left
      · intro w' hSw
        go_simp
        first | done | rfl
      try simp only [Act.put, List.setIfInBounds_toArray, List.set_cons_zero, List.set_cons_succ]
      refine wpAnyH_take (i := 3) (oi := ⟨some 159, _, _, _, _, _⟩) (v := ?_) rfl (by kernel_rfl) (by kernel_rfl) (by kernel_rfl) (fun _ _ _ h => h) (Or.inl ⟨by rfl, ?_⟩) hHeld ?_
      rotate_left
      · intro w' hSw
        go_simp
        first | done | rfl
      try simp only [Act.put, List.setIfInBounds_toArray, List.set_cons_zero, List.set_cons_succ]
      refine wpAnyH_take (i := 4) (oi := ⟨some 160, _, _, _, _, _⟩) (v := ?_) rfl (by kernel_rfl) (by kernel_rfl) (by kernel_rfl) (fun _ _ _ h => h) (Or.inl ⟨by rfl, ?_⟩) hHeld ?_
      rotate_left
      · intro w' hSw
        go_simp
        first | done | rfl
      try simp only [Act.put, List.setIfInBounds_toArray, List.set_cons_zero, List.set_cons_succ]
      refine wpAnyH_take (i := 5) (oi := ⟨some 161, _, _, _, _, _⟩) (v := ?_) rfl (by kernel_rfl) (by kernel_rfl) (by kernel_rfl) (fun _ _ _ h => h) (Or.inl ⟨by rfl, ?_⟩) hHeld ?_
      rotate_left
      · intro w' hSw
        go_simp
        first | done | rfl
      try simp only [Act.put, List.setIfInBounds_toArray, List.set_cons_zero, List.set_cons_succ]
      refine wpAnyH_take (i := 6) (oi := ⟨some 162, _, _, _, _, _⟩) (v := ?_) rfl (by kernel_rfl) (by kernel_rfl) (by kernel_rfl) (fun _ _ _ h => h) (Or.inl ⟨by rfl, ?_⟩) hHeld ?_
      rotate_left
      · intro w' hSw
        go_simp
        first | done | rfl
      try simp only [Act.put, List.setIfInBounds_toArray, List.set_cons_zero, List.set_cons_succ]
      refine wpAnyH_take (i := 7) (oi := ⟨some 163, _, _, _, _, _⟩) (v := ?_) rfl (by kernel_rfl) (by kernel_rfl) (by kernel_rfl) (fun _ _ _ h => h) (Or.inl ⟨by rfl, ?_⟩) hHeld ?_
      rotate_left
      · intro w' hSw
        go_simp
        first | done | rfl
      try simp only [Act.put, List.setIfInBounds_toArray, List.set_cons_zero, List.set_cons_succ]
      refine wpAnyH_take (i := 8) (oi := ⟨some 164, _, _, _, _, _⟩) (v := ?_) rfl (by kernel_rfl) (by kernel_rfl) (by kernel_rfl) (fun _ _ _ h => h) (Or.inl ⟨by rfl, ?_⟩) hHeld ?_
      rotate_left
      · intro w' hSw
        go_simp
        first | done | rfl
      try simp only [Act.put, List.setIfInBounds_toArray, List.set_cons_zero, List.set_cons_succ]
      refine wpAnyH_take (i := 9) (oi := ⟨some 165, _, _, _, _, _⟩) (v := ?_) rfl (by kernel_rfl) (by kernel_rfl) (by kernel_rfl) (fun _ _ _ h => h) (Or.inl ⟨by rfl, ?_⟩) hHeld ?_
      rotate_left
      · intro w' hSw
        go_simp
        first | done | rfl
      try simp only [Act.put, List.setIfInBounds_toArray, List.set_cons_zero, List.set_cons_succ]
      refine wpAnyH_take (i := 10) (oi := ⟨some 166, _, _, _, _, _⟩) (v := ?_) rfl (by kernel_rfl) (by kernel_rfl) (by kernel_rfl) (fun _ _ _ h => h) (Or.inl ⟨by rfl, ?_⟩) hHeld ?_
      rotate_left
      · intro w' hSw
        go_simp
        first | done | rfl
      try simp only [Act.put, List.setIfInBounds_toArray, List.set_cons_zero, List.set_cons_succ]
      refine wpAnyH_take (i := 11) (oi := ⟨some 167, _, _, _, _, _⟩) (v := ?_) rfl (by kernel_rfl) (by kernel_rfl) (by kernel_rfl) (fun _ _ _ h => h) (Or.inl ⟨by rfl, ?_⟩) hHeld ?_
      rotate_left
      · intro w' hSw
        go_simp
        first | done | rfl
      try simp only [Act.put, List.setIfInBounds_toArray, List.set_cons_zero, List.set_cons_succ]
      refine wpAnyH_take (i := 12) (oi := ⟨some 168, _, _, _, _, _⟩) (v := _) rfl (by kernel_rfl) (by kernel_rfl) (by kernel_rfl) (fun _ _ _ h => h) (yieldsIf_load_mid (by rfl) _ _ rfl _ _ rfl RV _ (fun w' h => HRG.out _ h) Tryd.underlying24 rfl HRI.out) hHeld ?_
      try simp only [Act.put, List.setIfInBounds_toArray, List.set_cons_zero, List.set_cons_succ]
      refine wpAnyH_take (i := 13) (oi := ⟨some 169, _, _, _, _, _⟩) (v := ?_) rfl (by kernel_rfl) (by kernel_rfl) (by kernel_rfl) (fun _ _ _ h => h) (Or.inl ⟨by rfl, ?_⟩) hHeld ?_
      rotate_left
      · intro w' hSw
        go_simp
        first | done | rfl
      try simp only [Act.put, List.setIfInBounds_toArray, List.set_cons_zero, List.set_cons_succ]
      refine wpAnyH_take (i := 14) (oi := ⟨some 170, _, _, _, _, _⟩) (v := ?_) rfl (by kernel_rfl) (by kernel_rfl) (by kernel_rfl) (fun _ _ _ h => h) (Or.inl ⟨by rfl, ?_⟩) hHeld ?_
      rotate_left
      · intro w' hSw
        go_simp
        first | done | rfl
      try simp only [Act.put, List.setIfInBounds_toArray, List.set_cons_zero, List.set_cons_succ]
      refine wpAnyH_take (i := 15) (oi := ⟨some 171, _, _, _, _, _⟩) (v := ?_) rfl (by kernel_rfl) (by kernel_rfl) (by kernel_rfl) (fun _ _ _ h => h) (Or.inl ⟨by rfl, ?_⟩) hHeld ?_
      rotate_left
      · intro w' hSw
        go_simp
        first | done | rfl
      try simp only [Act.put, List.setIfInBounds_toArray, List.set_cons_zero, List.set_cons_succ]
      refine wpAnyH_take (i := 17) (oi := ⟨some 173, _, _, _, _, _⟩) (v := ?_) rfl (by kernel_rfl) (by kernel_rfl) (by kernel_rfl) (fun _ _ _ h => h) (Or.inl ⟨by rfl, ?_⟩) hHeld ?_
      rotate_left
      · intro w' hSw
        go_simp
        first | done | rfl
      try simp only [Act.put, List.setIfInBounds_toArray, List.set_cons_zero, List.set_cons_succ]
      refine wpAnyH_ready (rs := [16]) (by kernel_rfl) (by simp) ?_
      refine AllReadyH.cons (o := ⟨some 172, _, _, _, _, _⟩) rfl (fun K hK => ?_) AllReadyH.nil
      go_simp
      refine (HLF.out _ hHeld).mono ?_
      rintro e v16 ⟨rfl, hk16⟩
      have hq16 := hHeld.trans hk16 (fun _ _ h => h)
      refine hK.out _ _ hq16 (fun hHeld => ?_)
      clear hK K
      try simp only [Act.put, List.setIfInBounds_toArray, List.set_cons_zero, List.set_cons_succ]
      refine wpAnyH_ready (rs := [18]) (by kernel_rfl) (by simp) ?_
      refine AllReadyH.cons (o := ⟨some 174, _, _, _, _, _⟩) rfl (fun K hK => ?_) AllReadyH.nil
      go_simp
      refine (HCE.out _ hHeld).mono ?_
      rintro e v18 ⟨rfl, hk18⟩
      have hq18 := hHeld.trans hk18 (fun _ _ h => h)
      refine hK.out _ _ hq18 (fun hHeld => ?_)
      clear hK K
      try simp only [Act.put, List.setIfInBounds_toArray, List.set_cons_zero, List.set_cons_succ]
      refine wpAnyH_ready (rs := [19]) (by kernel_rfl) (by simp) ?_
      refine AllReadyH.cons (o := ⟨some 175, _, _, _, _, _⟩) rfl (fun K hK => ?_) AllReadyH.nil
      go_simp
      refine (tells_nil _ 0).mono ?_
      rintro e v19 ⟨rfl, hk19⟩
      have hq19 := hHeld.trans hk19 (fun _ _ h => h)
      refine hK.out _ _ hq19 (fun hHeld => ?_)
      clear hK K
      try simp only [Act.put, List.setIfInBounds_toArray, List.set_cons_zero, List.set_cons_succ]
      refine wpAnyH_take (i := 20) (oi := ⟨some 176, _, _, _, _, _⟩) (v := ?_) rfl (by kernel_rfl) (by kernel_rfl) (by kernel_rfl) (fun _ _ _ h => h) (Or.inl ⟨by rfl, ?_⟩) hHeld ?_
      rotate_left
      · intro w' hSw
        go_simp
        first | done | rfl
      try simp only [Act.put, List.setIfInBounds_toArray, List.set_cons_zero, List.set_cons_succ]
      refine wpAnyH_take (i := 21) (oi := ⟨some 177, _, _, _, _, _⟩) (v := ?_) rfl (by kernel_rfl) (by kernel_rfl) (by kernel_rfl) (fun _ _ _ h => h) (Or.inl ⟨by rfl, ?_⟩) hHeld ?_
      rotate_left
      · intro w' hSw
        go_simp
        first | done | rfl
      try simp only [Act.put, List.setIfInBounds_toArray, List.set_cons_zero, List.set_cons_succ]
      refine wpAnyH_take (i := 22) (oi := ⟨some 178, _, _, _, _, _⟩) (v := ?_) rfl (by kernel_rfl) (by kernel_rfl) (by kernel_rfl) (fun _ _ _ h => h) (Or.inl ⟨by rfl, ?_⟩) hHeld ?_
      rotate_left
      · intro w' hSw
        go_simp
        first | done | rfl
      try simp only [Act.put, List.setIfInBounds_toArray, List.set_cons_zero, List.set_cons_succ]
      refine wpAnyH_take (i := 23) (oi := ⟨some 179, _, _, _, _, _⟩) (v := _) rfl (by kernel_rfl) (by kernel_rfl) (by kernel_rfl) (fun _ _ _ h => h) (yieldsIf_load_mid (by rfl) _ _ rfl _ _ rfl OV _ (fun w' h => HOG.out _ h) Tryd.underlying24 rfl HOI.out) hHeld ?_
      try simp only [Act.put, List.setIfInBounds_toArray, List.set_cons_zero, List.set_cons_succ]
      refine wpAnyH_take (i := 24) (oi := ⟨some 180, _, _, _, _, _⟩) (v := ?_) rfl (by kernel_rfl) (by kernel_rfl) (by kernel_rfl) (fun _ _ _ h => h) (Or.inl ⟨by rfl, ?_⟩) hHeld ?_
      rotate_left
      · intro w' hSw
        go_simp
        first | done | rfl
      try simp only [Act.put, List.setIfInBounds_toArray, List.set_cons_zero, List.set_cons_succ]
      refine wpAnyH_take (i := 25) (oi := ⟨some 181, _, _, _, _, _⟩) (v := _) rfl (by kernel_rfl) (by kernel_rfl) (by kernel_rfl) (fun _ _ _ h => h) (yieldsIf_load_mid (by rfl) _ _ rfl _ _ rfl RV _ (fun w' h => HRG.out _ h) Tryd.underlying24 rfl HRI.out) hHeld ?_
      try simp only [Act.put, List.setIfInBounds_toArray, List.set_cons_zero, List.set_cons_succ]
      refine wpAnyH_take (i := 26) (oi := ⟨some 182, _, _, _, _, _⟩) (v := ?_) rfl (by kernel_rfl) (by kernel_rfl) (by kernel_rfl) (fun _ _ _ h => h) (Or.inl ⟨by rfl, ?_⟩) hHeld ?_
      rotate_left
      · intro w' hSw
        go_simp
        first | done | rfl
      try simp only [Act.put, List.setIfInBounds_toArray, List.set_cons_zero, List.set_cons_succ]
      refine wpAnyH_ready (rs := [27]) (by kernel_rfl) (by simp) ?_
      refine AllReadyH.cons (o := ⟨some 183, _, _, _, _, _⟩) rfl (fun K hK => ?_) AllReadyH.nil
      go_simp
      refine (HCG.out _ hHeld).mono ?_
      rintro e v27 ⟨rfl, hk27⟩
      have hq27 := hHeld.trans hk27 (fun _ _ h => h)
      refine hK.out _ _ hq27 (fun hHeld => ?_)
      clear hK K
      try simp only [Act.put, List.setIfInBounds_toArray, List.set_cons_zero, List.set_cons_succ]
      refine wpAnyH_ready (rs := [28]) (by kernel_rfl) (by simp) ?_
      refine AllReadyH.cons (o := ⟨some 184, _, _, _, _, _⟩) rfl (fun K hK => ?_) AllReadyH.nil
      go_simp
      refine (tells_nil _ 0).mono ?_
      rintro e v28 ⟨rfl, hk28⟩
      have hq28 := hHeld.trans hk28 (fun _ _ h => h)
      refine hK.out _ _ hq28 (fun hHeld => ?_)
      clear hK K
      try simp only [Act.put, List.setIfInBounds_toArray, List.set_cons_zero, List.set_cons_succ]
      refine wpAnyH_take (i := 29) (oi := ⟨some 185, _, _, _, _, _⟩) (v := ?_) rfl (by kernel_rfl) (by kernel_rfl) (by kernel_rfl) (fun _ _ _ h => h) (Or.inl ⟨by rfl, ?_⟩) hHeld ?_
      rotate_left
      · intro w' hSw
        go_simp
        first | done | rfl
      try simp only [Act.put, List.setIfInBounds_toArray, List.set_cons_zero, List.set_cons_succ]
      refine wpAnyH_take (i := 30) (oi := ⟨some 186, _, _, _, _, _⟩) (v := ?_) rfl (by kernel_rfl) (by kernel_rfl) (by kernel_rfl) (fun _ _ _ h => h) (Or.inl ⟨by rfl, ?_⟩) hHeld ?_
      rotate_left
      · intro w' hSw
        go_simp
        first | done | rfl
      try simp only [Act.put, List.setIfInBounds_toArray, List.set_cons_zero, List.set_cons_succ]
      refine wpAnyH_take (i := 31) (oi := ⟨some 187, _, _, _, _, _⟩) (v := ?_) rfl (by kernel_rfl) (by kernel_rfl) (by kernel_rfl) (fun _ _ _ h => h) (Or.inl ⟨by rfl, ?_⟩) hHeld ?_
      rotate_left
      · intro w' hSw
        go_simp
        first | done | rfl
      try simp only [Act.put, List.setIfInBounds_toArray, List.set_cons_zero, List.set_cons_succ]
      refine wpAnyH_take (i := 32) (oi := ⟨some 188, _, _, _, _, _⟩) (v := ?_) rfl (by kernel_rfl) (by kernel_rfl) (by kernel_rfl) (fun _ _ _ h => h) (Or.inl ⟨by rfl, ?_⟩) hHeld ?_
      rotate_left
      · intro w' hSw
        go_simp
        first | done | rfl
      try simp only [Act.put, List.setIfInBounds_toArray, List.set_cons_zero, List.set_cons_succ]
      refine wpAnyH_take (i := 33) (oi := ⟨some 189, _, _, _, _, _⟩) (v := ?_) rfl (by kernel_rfl) (by kernel_rfl) (by kernel_rfl) (fun _ _ _ h => h) (Or.inl ⟨by rfl, ?_⟩) hHeld ?_
      rotate_left
      · intro w' hSw
        go_simp
        first | done | rfl
      try simp only [Act.put, List.setIfInBounds_toArray, List.set_cons_zero, List.set_cons_succ]
      refine wpAnyH_take (i := 34) (oi := ⟨some 190, _, _, _, _, _⟩) (v := ?_) rfl (by kernel_rfl) (by kernel_rfl) (by kernel_rfl) (fun _ _ _ h => h) (Or.inl ⟨by rfl, ?_⟩) hHeld ?_
      rotate_left
      · intro w' hSw
        go_simp
        first | done | rfl
      try simp only [Act.put, List.setIfInBounds_toArray, List.set_cons_zero, List.set_cons_succ]
      refine wpAnyH_take (i := 35) (oi := ⟨some 191, _, _, _, _, _⟩) (v := _) rfl (by kernel_rfl) (by kernel_rfl) (by kernel_rfl) (fun _ _ _ h => h) (yieldsIf_load_mid (by rfl) _ _ rfl _ _ rfl RV _ (fun w' h => HDG.out _ h) Tryd.underlying24 rfl HRI.out) hHeld ?_
      try simp only [Act.put, List.setIfInBounds_toArray, List.set_cons_zero, List.set_cons_succ]
      refine wpAnyH_take (i := 36) (oi := ⟨some 192, _, _, _, _, _⟩) (v := _) rfl (by kernel_rfl) (by kernel_rfl) (by kernel_rfl) (fun _ _ _ h => h) (yieldsIf_load_mid (by rfl) _ _ rfl _ _ rfl RV _ (fun w' h => HRG.out _ h) Tryd.underlying24 rfl HRI.out) hHeld ?_
      try simp only [Act.put, List.setIfInBounds_toArray, List.set_cons_zero, List.set_cons_succ]
      refine wpAnyH_take (i := 37) (oi := ⟨some 193, _, _, _, _, _⟩) (v := ?_) rfl (by kernel_rfl) (by kernel_rfl) (by kernel_rfl) (fun _ _ _ h => h) (Or.inl ⟨by rfl, ?_⟩) hHeld ?_
      rotate_left
      · intro w' hSw
        have cv := HEQ.out w'
        go_simp
        first | done | rfl
      try simp only [Act.put, List.setIfInBounds_toArray, List.set_cons_zero, List.set_cons_succ]
      refine wpAnyH_take (i := 38) (oi := ⟨some 194, _, _, _, _, _⟩) (v := ?_) rfl (by kernel_rfl) (by kernel_rfl) (by kernel_rfl) (fun _ _ _ h => h) (Or.inl ⟨by rfl, ?_⟩) hHeld ?_
      rotate_left
      · intro w' hSw
        go_simp
        first | done | rfl
      try simp only [Act.put, List.setIfInBounds_toArray, List.set_cons_zero, List.set_cons_succ]
      refine wpAnyH_take (i := 39) (oi := ⟨some 6, _, _, _, _, _⟩) (v := ?_) rfl (by kernel_rfl) (by kernel_rfl) (by kernel_rfl) (fun _ _ _ h => h) (Or.inl ⟨by rfl, ?_⟩) hHeld ?_
      rotate_left
      · intro w' hSw
        go_simp
        first | done | rfl
      try simp only [Act.put, List.setIfInBounds_toArray, List.set_cons_zero, List.set_cons_succ]
      refine wpAnyH_done (by kernel_rfl) ?_ _
      go_wp2
      go_ret
      exact ⟨rfl, HW14.out.trans hq28 (fun _ _ h => h)⟩
/-- THE LAW: what a book proves is taken. -/
theorem proves_any (w : World) (hG : Glob w) (A : Option Addr) (N c : Nat) (pss : List (List Int)) (hm : pss.length = N) (hp : RdPartsO (fun _ => False) w A pss) (hmb : N ≤ 140737488355328) (i n : Int) :
    Calls Tryd.prog 9 #[.slice A N c, .int .i64 i, .int .i64 n] w fun e w' => e = .returned (.bool true) ∧ Keeps (fun _ => False) w w' := by
  by_cases hbig : 2147483648 ≤ weigh pss
  · exact proves_big w A N c pss hm hp hmb i n hbig
  · have hsm : weigh pss < 2147483648 := by omega
    by_cases h1 : 2000 < (N : Int)
    · exact proves_off w A N c pss hm hp i n hsm (.inl h1)
    · by_cases h2 : n < 1
      · exact proves_off w A N c pss hm hp i n hsm (.inr (.inl ⟨h1, h2⟩))
      · by_cases h3 : (N : Int) < n
        · exact proves_off w A N c pss hm hp i n hsm (.inr (.inr (.inl ⟨h1, h2, h3⟩)))
        · by_cases h4 : i < 0
          · exact proves_off w A N c pss hm hp i n hsm (.inr (.inr (.inr (.inl ⟨h1, h2, h3, h4⟩))))
          · by_cases h5 : n ≤ i
            · exact proves_off w A N c pss hm hp i n hsm (.inr (.inr (.inr (.inr ⟨h1, h2, h3, h4, h5⟩))))
            · obtain ⟨i', rfl⟩ : ∃ k : Nat, i = k := ⟨i.toNat, by omega⟩
              obtain ⟨n', rfl⟩ : ∃ k : Nat, n = k := ⟨n.toNat, by omega⟩
              by_cases h6 : (∃ bs ∈ pss, 1048576 < bs.length) ∨ 16777216 < ((pss.flatten.length : Nat) : Int)
              · exact proves_long w A N c pss hm hp i' n' hsm (by omega) (by omega) (by omega) (by omega) h6
              · exact proves_main w hG A N c pss hm hp i' n' hsm (by omega) (by omega) (by omega) (by omega) (fun bs hb => by
                  rcases Nat.lt_or_ge 1048576 bs.length with h | h
                  · exact absurd (.inl ⟨bs, hb, h⟩) h6
                  · exact h) (by
                  by_cases h : 16777216 < ((pss.flatten.length : Nat) : Int)
                  · exact absurd (.inr h) h6
                  · omega)
end Go.Proofs.YtknecjjdegngfaaDoor
