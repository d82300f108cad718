/- Texts. -/
import Derived.Test.YtplleficmkfniaaGreatDoorQ13
import Derived.IntWalk
set_option linter.unusedSimpArgs false
set_option maxRecDepth 100000
set_option maxHeartbeats 4000000
namespace Go.Aff
open Go Go.RowKit
theorem own_base {w : World} {e : TypeId} {s n B : Nat} {v : Value} {xs : List Value} (h : w.ownsRow 0 e s v n xs) (hB : ∀ g, v.ownBlock = some g → B ≤ g) : w.ownsRow B e s v n xs := by
 refine ⟨h.1, ?_⟩
 rcases h.2 with h0 | ⟨g, cap, cur, rfl, _, rest⟩
 ·exact .inl h0
 ·exact .inr ⟨g, cap, cur, rfl, hB g rfl, rest⟩
theorem own_unbase {w : World} {e : TypeId} {s n B : Nat} {v : Value} {xs : List Value} (h : w.ownsRow B e s v n xs) : w.ownsRow 0 e s v n xs := by
 refine ⟨h.1, ?_⟩
 rcases h.2 with h0 | ⟨g, cap, cur, rfl, _, rest⟩
 ·exact .inl h0
 ·exact .inr ⟨g, cap, cur, rfl, Nat.zero_le _, rest⟩
theorem Mine.base {w wr : World} {e : TypeId} {A : Option Addr} {m c : Nat} {xs : List Value} (h : Mine w wr e A m c xs) : wr.ownsRow w.heap.size e 1 (.slice A m c) m xs := own_base h.1 h.2.2
theorem Mine.of_base {w wr : World} {e : TypeId} {A : Option Addr} {m c : Nat} {xs : List Value} (h : wr.ownsRow w.heap.size e 1 (.slice A m c) m xs) (hk : Keeps (fun _ => False) w wr) : Mine w wr e A m c xs :=
 ⟨own_unbase h, hk, fun g hg => (h.lt g hg).1⟩
theorem wpList_run_append {P : Program} {w w' : World} {ops : Array Oper} {rest : List Oper} {o : Oper} {a : Act} {Q : Exit → Act → World → Prop} (hgd : o.guard = none) (s x : Operand) (t u : TypeId)
  (ho : o.op = .call { callee := .builtin .append, args := #[s, x], argTypes := #[t, u] }) (vs vx v : Value) (hs : a.eval s = vs) (hx : a.eval x = vx) (hrun : (Builtin.append_ #[t, u] o.type #[vs, vx]).run P w = .ok v w')
  (h : wpList P ops Q rest (a.put o.dst v) w') : wpList P ops Q (o :: rest) a w := by
 refine wpList_plain hgd fun K hK => ?_
 unfold Oper.wp execOp
 simp only [ho, resolve, invoke, builtin, Sem.run_bind, Sem.run_pure, Result.andThen_ok, List.map_toArray, List.map_cons, List.map_nil, hs, hx, hrun]
 exact hK _ _ h
end Go.Aff
namespace Go.Proofs.YtplleficmkfniaaGreatDoor
open Go Go.RowKit Go.Sha Go.Aff Go.Mac
theorem RdPartsO.at {F G : Nat → Prop} {w wr : World} {A : Option Addr} {pss : List (List Int)} (h : RdPartsO F w A pss) (hk : Keeps G w wr) (hG : ∀ i, G i → F i) {k : Nat} (hlt : k < pss.length) :
  ∃ g o bs A' c', A = some ⟨g, o, none⟩ ∧ pss[k]? = some bs ∧ wr.cell? ⟨g, o + k, none⟩ = some (.slice A' bs.length c') ∧ Rd wr A' bs.length (vb bs) ∧ IsBytes bs ∧ bs.length ≤ c' ∧ bs.length ≤ 140737488351232 := by
 obtain ⟨vals, hv, _, hparts⟩ := h.keep hk hG
 obtain ⟨g, o, e, hc⟩ := hv.2 (by omega)
 obtain ⟨bs, hbs⟩ : ∃ bs, pss[k]? = some bs := ⟨_, List.getElem?_eq_getElem hlt⟩
 obtain ⟨A', c', h1, h2, _, h4, h5, h6⟩ := hparts k bs hbs
 exact ⟨g, o, bs, A', c', e, hbs, (hc k hlt).trans h1, h2, h4, h5, h6⟩
theorem strCells_nums {bs : List Int} (h : IsBytes bs) : Lib.strCells (strOfNums bs) = vb bs := by
 unfold Lib.strCells vb
 rw [strOfNums_data, List.map_map]
 apply List.map_congr_left
 intro x hx
 have := h x hx
 have e := ofNat_int x.toNat (by omega)
 simp only [Function.comp]
 rw [e]
 congr 1
 omega
theorem lenF_bytes (n : Nat) : IsBytes (lenF n) := by
 intro x hx
 unfold lenF at hx
 obtain ⟨b, _, rfl⟩ := List.mem_map.1 hx
 have := b.toNat_lt
 omega
theorem append_str {w wr : World} {A : Option Addr} {m c : Nat} {xs : List Value} (h : Mine w wr 5 A m c xs) (bs : List Int) (q : Nat) (hq : bs.length = q) (hb : IsBytes bs) (hm : m + q ≤ 140737488355328) (ty : TypeId) :
  ∃ A' c' w', (Builtin.append_ #[48, 9] ty #[.slice A m c, .string (strOfNums bs)]).run Tryz.prog wr = .ok (.slice A' (m + q) c') w' ∧ Mine w w' 5 A' (m + q) c' (xs ++ vb bs) := by
 obtain ⟨i0, hi, hz0, hz1, hz2⟩ := info_parts info5
 have hsz : (strOfNums bs).size = q := by rw [strOfNums_size, hq]
 obtain ⟨v', w', h1, h2, h3, _⟩ := Lib.run_append_own_string (P := Tryz.prog) wr w.heap.size 48 9 ty 5 i0 Tryz.underlying48 Tryz.underlying9 hi hz0 hz1 hz2 (.slice A m c) m xs h.base (strOfNums bs) (by rw [hsz]; unfold maxLen; omega) (by rw [hsz]; omega) h.2.1.size
 rw [hsz, strCells_nums hb] at h2
 obtain ⟨A', c', rfl⟩ := own_shape h2
 refine ⟨A', c', w', ?_, Mine.of_base h2 (h.2.1.grown h3 (fun g e => .inr (h.2.2 g e)))⟩
 exact h1
theorem length_any (n : Nat) (hn : n ≤ 140737488355328) : ∀ w : World, Calls Tryz.prog 212 #[.int .i64 n] w fun e w' => e = .returned (.string (strOfNums (lenF n))) ∧ Keeps (fun _ => False) w w' := by
 induction n using Nat.strongRecOn with
 | _ n ih =>
 intro w
 have HCV : Hid (∀ (W : World) (A : Option Addr) (z : Int), Rd W A 1 [Value.int .u8 z] → (convert 48 9 (.slice A 1 1)).run Tryz.prog W = .ok (.string (strOfNums [z])) W) := H_ fun W A z h => convert_rd W Tryz.underlying48 Tryz.underlying5 Tryz.underlying9 1 h
 by_cases hlt : n < 10
 ·have hlt' : (n : Int) < 10 := by omega
  have HL := H_ (lenF_one hlt)
  have cv := HCV.out _ _ _ (Rd.of_blk (Blk.new w 5 [Value.int .u8 (48 + (n : Int))]) (n := 1) rfl)
  go_enter Tryz.func212, Tryz.ntmps212
  go_wp2
  go_ret
  exact ⟨by rw [HL.out]; rfl, (Keeps.refl _ w).alloc _⟩
 ·have HDD : Hid (strOfNums (lenF n) = strOfNums (lenF (n / 10)) ++ strOfNums [48 + (n : Int) % 10]) := H_ (by rw [strOf_app, ← lenF_more hlt])
  have HIH : Hid (∀ W, Keeps (fun _ => False) w W → Calls Tryz.prog 212 #[.int .i64 ((n : Int) / 10)] W fun e w' => e = .returned (.string (strOfNums (lenF (n / 10)))) ∧ Keeps (fun _ => False) W w') := H_ fun W _ => by
   have := ih (n / 10) (by omega) (by omega) W
   rwa [Int.natCast_ediv] at this
  have h10 : 10 ≤ (n : Int) := by omega
  clear ih
  have hsz : ¬ (9223372036854775807 < (strOfNums (lenF (n / 10))).size + (strOfNums [48 + (n : Int) % 10]).size) := by
   have := lenF_le (n / 10)
   rw [strOfNums_size, strOfNums_size]
   simp only [List.length_cons, List.length_nil]
   omega
  have w1 : IntKind.i64.wrap ((n : Int) / 10) = (n : Int) / 10 := IntWalk.i64_in _ (by omega)
  have w2 : (n : Int).tmod 10 = (n : Int) % 10 := Int.tmod_eq_emod_of_nonneg (by omega)
  have w3 : IntKind.i64.wrap (48 + (n : Int) % 10) = 48 + (n : Int) % 10 := IntWalk.i64_in _ (by omega)
  have w4 : IntKind.u8.wrap (48 + (n : Int) % 10) = 48 + (n : Int) % 10 := by rw [IntKind.wrap_u8]; omega
  go_enter Tryz.func212, Tryz.ntmps212
  go_wp2
  refine wp_region_held_drew (S := Keeps (fun _ => False) w) (by kernel_rfl) ((Keeps.refl (fun _ => False) _).drew) (fun h_ => ?_)
  refine tI 0 10 h_ ?_
  try simp only [pu]
  refine tI 1 11 h_ ?_
  try simp only [pu]
  refine tI 3 13 h_ ?_
  try simp only [pu]
  refine tI 4 14 h_ ?_
  try simp only [pu]
  refine tI 5 15 h_ ?_
  try simp only [pu]
  refine tI 6 16 h_ ?_
  try simp only [pu]
  refine wpAnyH_ready (rs := [2, 7]) (by kernel_rfl) (by simp) ?_
  refine (AllReadyH.cons (o := ⟨some 12, _, _, _, _, _⟩) rfl (fun K hK => ?_) (AllReadyH.cons (o := ⟨some 17, _, _, _, _, _⟩) rfl (fun K hK => ?_) AllReadyH.nil))
  ·go_simp
   refine (HIH.out _ h_).mono ?_
   rintro e wA ⟨rfl, hkA⟩
   have hqA := h_.trans hkA (fun _ _ h => h)
   refine hK.out _ _ hqA (fun h_ => ?_)
   clear hK K
   try simp only [pu]
   refine rH 7 (some 17) fun K hK => ?_
   go_simp
   have HB : Hid (Rd (wA.alloc (.cells #[.int .u8 (48 + (n : Int) % 10)] 5)) (some ⟨wA.heap.size, 0, none⟩) 1 [Value.int .u8 (48 + (n : Int) % 10)]) := H_ (Rd.of_blk (Blk.new wA 5 [Value.int .u8 (48 + (n : Int) % 10)]) rfl)
   refine hK.out _ _ (h_.alloc _) (fun h_ => ?_)
   clear hK K
   try simp only [pu]
   refine rH 8 (some 18) fun K hK => ?_
   have cv := HCV.out _ _ _ HB.out
   go_simp
   clear cv HB
   refine hK.out _ _ h_ (fun h_ => ?_)
   clear hK K
   try simp only [pu]
   refine tI 9 19 h_ ?_
   try simp only [pu]
   refine tI 10 2 h_ ?_
   try simp only [pu]
   refine wpAnyH_done (by kernel_rfl) ?_ _
   have HK := H_ h_
   go_wp2
   go_ret
   exact ⟨by rw [HDD.out]; rfl, HK.out⟩
  ·go_simp
   have HB : Hid (Rd (w.alloc (.cells #[.int .u8 (48 + (n : Int) % 10)] 5)).drew (some ⟨w.heap.size, 0, none⟩) 1 [Value.int .u8 (48 + (n : Int) % 10)]) := H_ ((Rd.of_blk (Blk.new w 5 [Value.int .u8 (48 + (n : Int) % 10)]) rfl).keep ((Keeps.refl (fun _ => False) _).drew) (no_out _ _))
   have h_ := h_.alloc (.cells #[.int .u8 (48 + (n : Int) % 10)] 5)
   refine hK.out _ _ (((Keeps.refl (fun _ => False) w).alloc _).drew) (fun h_ => ?_)
   clear hK K
   try simp only [pu]
   refine wpAnyH_ready (rs := [2, 8]) (by kernel_rfl) (by simp) ?_
   refine (AllReadyH.cons (o := ⟨some 12, _, _, _, _, _⟩) rfl (fun K hK => ?_) (AllReadyH.cons (o := ⟨some 18, _, _, _, _, _⟩) rfl (fun K hK => ?_) AllReadyH.nil))
   ·go_simp
    refine (HIH.out _ h_).mono ?_
    rintro e wA ⟨rfl, hkA⟩
    have hqA := h_.trans hkA (fun _ _ h => h)
    have HB := H_ (HB.out.keep hkA (no_out _ _))
    refine hK.out _ _ hqA (fun h_ => ?_)
    clear hK K
    try simp only [pu]
    refine rH 8 (some 18) fun K hK => ?_
    have cv := HCV.out _ _ _ HB.out
    go_simp
    clear cv HB
    refine hK.out _ _ h_ (fun h_ => ?_)
    clear hK K
    try simp only [pu]
    refine tI 9 19 h_ ?_
    try simp only [pu]
    refine tI 10 2 h_ ?_
    try simp only [pu]
    refine wpAnyH_done (by kernel_rfl) ?_ _
    have HK := H_ h_
    go_wp2
    go_ret
    exact ⟨by rw [HDD.out]; rfl, HK.out⟩
   ·have cv := HCV.out _ _ _ HB.out
    go_simp
    clear cv HB
    refine hK.out _ _ h_ (fun h_ => ?_)
    clear hK K
    try simp only [pu]
    refine rH 2 (some 12) fun K hK => ?_
    go_simp
    refine (HIH.out _ h_).mono ?_
    rintro e wA ⟨rfl, hkA⟩
    have hqA := h_.trans hkA (fun _ _ h => h)
    refine hK.out _ _ hqA (fun h_ => ?_)
    clear hK K
    try simp only [pu]
    refine tI 9 19 h_ ?_
    try simp only [pu]
    refine tI 10 2 h_ ?_
    try simp only [pu]
    refine wpAnyH_done (by kernel_rfl) ?_ _
    have HK := H_ h_
    go_wp2
    go_ret
    exact ⟨by rw [HDD.out]; rfl, HK.out⟩
theorem row_at {w : World} {A : Option Addr} {n N : Nat} {pss : List (List Int)} (hr : RdPartsO (fun _ => False) w A pss) (hnn : pss.length = n) (hN : (rowF pss).length = N) (wr : World) (k m : Nat) (hk : Keeps (fun _ => False) w wr) (hlt : k < n) (hm : (rowF (pss.take k)).length = m) :
  ∃ (g o : Nat) (bs : List Int) (q l : Nat) (A' : Option Addr) (c' : Nat), A = some ⟨g, o, none⟩ ∧ wr.cell? ⟨g, o + k, none⟩ = some (.slice A' q c') ∧ Rd w A' q (vb bs) ∧ q ≤ 140737488351232 ∧ (lenF q).length = l ∧ m + l + 1 + q + 1 ≤ N ∧ (rowF (pss.take (k + 1))).length = m + l + 1 + q + 1 ∧
   ((vb (rowF (pss.take k)) ++ vb (lenF q)) ++ [Value.int .u8 32]) ++ vb bs ++ [Value.int .u8 32] = vb (rowF (pss.take (k + 1))) := by
 obtain ⟨g, o, bs, A', c', e1, e2, e3, e4, _, _, e7⟩ := hr.at (k := k) (Keeps.refl (fun _ => False) w) (fun _ h => h) (by omega)
 have e3 := (hk.cell (p := ⟨g, o + k, none⟩) (World.block_lt_of_cell? w _ e3) (fun h => h)).trans e3
 have ht := rowF_take pss k bs e2
 have hl : (rowF (pss.take (k + 1))).length = m + (lenF bs.length).length + 1 + bs.length + 1 := by rw [ht]; simp; omega
 have := rowF_mono pss (k + 1)
 exact ⟨g, o, bs, bs.length, (lenF bs.length).length, A', c', e1, e3, e4, e7, rfl, by omega, hl, by rw [ht]; simp [vb]⟩
theorem rrow_any (w : World) (A : Option Addr) (n c : Nat) (pss : List (List Int)) (N : Nat) (hnn : pss.length = n) (hr : RdPartsO (fun _ => False) w A pss) (hn : n ≤ 1048576) (hN : (rowF pss).length = N) (hbig : N ≤ 16777216) :
  Calls Tryz.prog 178 #[.slice A n c] w fun e w' => ∃ A' c', e = .returned (.slice A' N c') ∧ Mine w w' 5 A' N c' (vb (rowF pss)) := by
 have HAT := H_ (row_at hr hnn hN)
 have HTK : Hid (pss.take n = pss) := H_ (by rw [← hnn, List.take_length])
 have HNN := H_ hN
 clear hr hnn hN
 go_enter Tryz.func178, Tryz.ntmps178
 go_wp2
 go_loopw [3, 5, 8] (fun v _ i wr => ∃ (k m : Nat) (A' : Option Addr) (c' : Nat), k ≤ n ∧ i = .int .i64 k ∧ v = .slice A' m c' ∧ Hid ((rowF (pss.take k)).length = m) ∧ Hid (Mine w wr 5 A' m c' (vb (rowF (pss.take k))))) (fun _ _ i _ => n - (intOf i).toNat)
 case atStart => exact ⟨0, 0, none, 0, by omega, rfl, rfl, H_ rfl, H_ ⟨World.ownsRow_nil _ _ _ _, Keeps.refl _ _, fun g h => by cases h⟩⟩
 case round =>
  obtain ⟨k, m, A2, c2, hk, rfl, rfl, HM, HO⟩ := hrel
  by_cases hlt : k < n
  ·obtain ⟨g, o, bs, q, l, A1, c1, hA, hcell, hr1, hq, hl, hle, hlen, hcat⟩ := HAT.out wr k m HO.out.2.1 hlt HM.out
   subst hA
   have HE := H_ hcat
   have HL := H_ hlen
   have HR1 := H_ hr1
   have HLQ := H_ hl
   have HLB := H_ (lenF_bytes q)
   have HLN := H_ (length_any q (by omega) wr)
   obtain ⟨L, hL⟩ : ∃ L, L = lenF q := ⟨_, rfl⟩
   rw [← hL] at HLN HLB HLQ HE
   clear hcat hlen hr1 hl hL
   go_wp2_with (first
    | (go_at_call 212; refine HLN.out.mono ?_; rintro e w1 ⟨rfl, hk1⟩; have HO1 := H_ (HO.out.keep hk1); clear hk1; obtain ⟨A3, c3, w3, hrun3, hm3⟩ := append_str HO1.out L l HLQ.out HLB.out (by omega) 48; have HM3 := H_ hm3; have HRUN := H_ hrun3; have HO4 := H_ (hm3.1.alloc (.cells #[.int .u8 32] 5)); have HD4 := H_ (Rd.of_blk (Blk.new w3 5 [.int .u8 32]) (n := 1) rfl); clear hm3 hrun3)
    | (at_builtin; refine wpList_run_append rfl (.tmp 12) (.tmp 15) 48 9 rfl _ _ _ rfl rfl HRUN.out ?_)
    | (at_builtin; refine wpList_append_rd _ rfl (.tmp 17) (.tmp 18) 48 rfl 5 (.int .u8 0) 1 Tryz.underlying48 info5 rfl (.slice A3 (m + l) c3) (m + l) _ rfl HO4.out _ 1 1 _ rfl HD4.out (vb_one [32]) (by unfold maxLen; omega) (by omega) ?_; intro A5 c5 w5 hown5 hg5 hb5; have HM5 := H_ (HM3.out.app hown5 hg5 (by simpa only [World.size_alloc] using hb5)); have HR5 := H_ (HR1.out.keep HM5.out.2.1 (no_out _ _)); clear hown5 hg5 hb5)
    | (at_builtin; refine wpList_append_rd _ rfl (.tmp 20) (.tmp 21) 48 rfl 5 (.int .u8 0) 1 Tryz.underlying48 info5 rfl (.slice A5 (m + l + 1) c5) (m + l + 1) _ rfl HM5.out.1 A1 q c1 _ rfl HR5.out (vb_one _) (by unfold maxLen; omega) (by omega) ?_; intro A6 c6 w6 hown6 hg6 hb6; have HM6 := H_ (HM5.out.app0 hown6 hg6 hb6); have HO6 := H_ (HM6.out.1.alloc (.cells #[.int .u8 32] 5)); have HD6 := H_ (Rd.of_blk (Blk.new w6 5 [.int .u8 32]) (n := 1) rfl); clear hown6 hg6 hb6)
    | (at_builtin; refine wpList_append_rd _ rfl (.tmp 23) (.tmp 24) 48 rfl 5 (.int .u8 0) 1 Tryz.underlying48 info5 rfl (.slice A6 (m + l + 1 + q) c6) (m + l + 1 + q) _ rfl HO6.out _ 1 1 _ rfl HD6.out (vb_one [32]) (by unfold maxLen; omega) (by omega) ?_; intro A7 c7 w7 hown7 hg7 hb7; rw [HE.out] at hown7; have HM7 := H_ (HM6.out.app hown7 hg7 (by simpa only [World.size_alloc] using hb7)); clear hown7 hg7 hb7))
   go_roundw
   case rel => exact ⟨k + 1, m + l + 1 + q + 1, A7, c7, by omega, by go_num, rfl, HL, HM7⟩
   case measure => simp [intOf]; omega
  ·obtain rfl : k = n := by omega
   rw [HTK.out] at HM HO
   rw [HNN.out] at HM
   obtain rfl := HM.out
   clear HM
   go_wp2
   go_ret
   exact ⟨_, _, rfl, HO.out⟩
theorem appendInt_any {w W : World} {A : Option Addr} {m c : Nat} {xs : List Value} (h : Mine w W 5 A m c xs) (q l : Nat) (hq : q ≤ 140737488351232) (hl : (lenF q).length = l) (hm : m + 21 ≤ 140737488355328)
  (hT : Lib.TabBelow Tryz.prog w.heap.size w "internal/strconv.uint64pow10" .u64 Lib.pow10Tab) :
  Calls Tryz.prog 189 #[.slice A m c, .int .i64 q, .int .i64 10] W fun e w' => ∃ A' c', e = .returned (.slice A' (m + l) c') ∧ Mine w w' 5 A' (m + l) c' (xs ++ vb (lenF q)) := by
 have hb : Below w.heap.size w W := h.2.1.to_below (fun _ _ h => h)
 refine (Tryz.strconv_AppendInt_10 w.heap.size m q (by omega) (by omega) (.slice A m c) xs W h.base h.2.1.size hm (hT.on hb)).mono fun e w' ⟨v', he, ho, hbl, _⟩ => ?_
 have e1 : (Lib.itoa (q : Int)) = Lib.decDigits q := Lib.itoa_nonneg q
 have e2 : (Lib.decDigits q).length = l := by rw [← hl]; simp [lenF]
 rw [e1, e2, byteCells_lenF] at ho
 obtain ⟨A', c', rfl⟩ := own_shape ho
 exact ⟨A', c', he, Mine.of_base ho (h.2.1.trans (Keeps.below hbl) (fun i hi hB => by omega))⟩
theorem hrow_any (w : World) (hT : Lib.TabBelow Tryz.prog w.heap.size w "internal/strconv.uint64pow10" .u64 Lib.pow10Tab) (A : Option Addr) (n c : Nat) (pss : List (List Int)) (N : Nat) (hnn : pss.length = n) (hr : RdPartsO (fun _ => False) w A pss) (hn : n ≤ 1048576) (hN : (rowF pss).length = N) (hbig : N ≤ 16777216) :
  Calls Tryz.prog 144 #[.slice A n c] w fun e w' => ∃ A' c', e = .returned (.slice A' N c') ∧ Mine w w' 5 A' N c' (vb (rowF pss)) := by
 have HAT := H_ (row_at hr hnn hN)
 have HTK : Hid (pss.take n = pss) := H_ (by rw [← hnn, List.take_length])
 have HNN := H_ hN
 have HAI : Hid (∀ {W : World} {A : Option Addr} {m c : Nat} {xs : List Value}, Mine w W 5 A m c xs → ∀ (q l : Nat), q ≤ 140737488351232 → (lenF q).length = l → m + 21 ≤ 140737488355328 →
  Calls Tryz.prog 189 #[.slice A m c, .int .i64 q, .int .i64 10] W fun e w' => ∃ A' c', e = .returned (.slice A' (m + l) c') ∧ Mine w w' 5 A' (m + l) c' (xs ++ vb (lenF q))) := H_ fun h q l h1 h2 h3 => appendInt_any h q l h1 h2 h3 hT
 clear hr hnn hN hT
 go_enter Tryz.func144, Tryz.ntmps144
 go_wp2
 go_loopw [3, 5, 8] (fun v _ i wr => ∃ (k m : Nat) (A' : Option Addr) (c' : Nat), k ≤ n ∧ i = .int .i64 k ∧ v = .slice A' m c' ∧ Hid ((rowF (pss.take k)).length = m) ∧ Hid (Mine w wr 5 A' m c' (vb (rowF (pss.take k))))) (fun _ _ i _ => n - (intOf i).toNat)
 case atStart => exact ⟨0, 0, none, 0, by omega, rfl, rfl, H_ rfl, H_ ⟨World.ownsRow_nil _ _ _ _, Keeps.refl _ _, fun g h => by cases h⟩⟩
 case round =>
  obtain ⟨k, m, A2, c2, hk, rfl, rfl, HM, HO⟩ := hrel
  by_cases hlt : k < n
  ·obtain ⟨g, o, bs, q, l, A1, c1, hA, hcell, hr1, hq, hl, hle, hlen, hcat⟩ := HAT.out wr k m HO.out.2.1 hlt HM.out
   subst hA
   have HE := H_ hcat
   have HL := H_ hlen
   have HR1 := H_ hr1
   have HLN := H_ (HAI.out HO.out q l (by omega) hl (by omega))
   obtain ⟨L, hL⟩ : ∃ L, L = lenF q := ⟨_, rfl⟩
   rw [← hL] at HLN HE
   clear hcat hlen hr1 hl hL
   go_wp2_with (first
    | (go_at_call 189; refine HLN.out.mono ?_; rintro e w3 ⟨A3, c3, rfl, hm3⟩; have HM3 := H_ hm3; have HO4 := H_ (hm3.1.alloc (.cells #[.int .u8 32] 5)); have HD4 := H_ (Rd.of_blk (Blk.new w3 5 [.int .u8 32]) (n := 1) rfl); clear hm3)
    | (at_builtin; refine wpList_append_rd _ rfl (.tmp 16) (.tmp 17) 48 rfl 5 (.int .u8 0) 1 Tryz.underlying48 info5 rfl (.slice A3 (m + l) c3) (m + l) _ rfl HO4.out _ 1 1 _ rfl HD4.out (vb_one [32]) (by unfold maxLen; omega) (by omega) ?_; intro A5 c5 w5 hown5 hg5 hb5; have HM5 := H_ (HM3.out.app hown5 hg5 (by simpa only [World.size_alloc] using hb5)); have HR5 := H_ (HR1.out.keep HM5.out.2.1 (no_out _ _)); clear hown5 hg5 hb5)
    | (at_builtin; refine wpList_append_rd _ rfl (.tmp 19) (.tmp 20) 48 rfl 5 (.int .u8 0) 1 Tryz.underlying48 info5 rfl (.slice A5 (m + l + 1) c5) (m + l + 1) _ rfl HM5.out.1 A1 q c1 _ rfl HR5.out (vb_one _) (by unfold maxLen; omega) (by omega) ?_; intro A6 c6 w6 hown6 hg6 hb6; have HM6 := H_ (HM5.out.app0 hown6 hg6 hb6); have HO6 := H_ (HM6.out.1.alloc (.cells #[.int .u8 32] 5)); have HD6 := H_ (Rd.of_blk (Blk.new w6 5 [.int .u8 32]) (n := 1) rfl); clear hown6 hg6 hb6)
    | (at_builtin; refine wpList_append_rd _ rfl (.tmp 22) (.tmp 23) 48 rfl 5 (.int .u8 0) 1 Tryz.underlying48 info5 rfl (.slice A6 (m + l + 1 + q) c6) (m + l + 1 + q) _ rfl HO6.out _ 1 1 _ rfl HD6.out (vb_one [32]) (by unfold maxLen; omega) (by omega) ?_; intro A7 c7 w7 hown7 hg7 hb7; rw [HE.out] at hown7; have HM7 := H_ (HM6.out.app hown7 hg7 (by simpa only [World.size_alloc] using hb7)); clear hown7 hg7 hb7))
   go_roundw
   case rel => exact ⟨k + 1, m + l + 1 + q + 1, A7, c7, by omega, by go_num, rfl, HL, HM7⟩
   case measure => simp [intOf]; omega
  ·obtain rfl : k = n := by omega
   rw [HTK.out] at HM HO
   rw [HNN.out] at HM
   obtain rfl := HM.out
   clear HM
   go_wp2
   go_ret
   exact ⟨_, _, rfl, HO.out⟩
end Go.Proofs.YtplleficmkfniaaGreatDoor
