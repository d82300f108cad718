/- Texts. -/
import Derived.Test.YtplleficmkfniaaGreatDoorS23
import Derived.IntWalk
set_option linter.unusedSimpArgs false
set_option maxRecDepth 100000
set_option maxHeartbeats 4000000
namespace Go.Aff
open Go Go.RowKit
theorem own_base {w : World} {e : TypeId} {s n B : Nat} {v : Value} {xs : List Value} (h : w.ownsRow 0 e s v n xs) (hB : ∀ g, v.ownBlock = some g → B ≤ g) : w.ownsRow B e s v n xs := by
 refine ⟨h.1, ?_⟩
 rcases h.2 with h0 | ⟨g, cap, cur, rfl, _, rest⟩
 ·exact .inl h0
 ·exact .inr ⟨g, cap, cur, rfl, hB g rfl, rest⟩
theorem own_unbase {w : World} {e : TypeId} {s n B : Nat} {v : Value} {xs : List Value} (h : w.ownsRow B e s v n xs) : w.ownsRow 0 e s v n xs := by
 refine ⟨h.1, ?_⟩
 rcases h.2 with h0 | ⟨g, cap, cur, rfl, _, rest⟩
 ·exact .inl h0
 ·exact .inr ⟨g, cap, cur, rfl, Nat.zero_le _, rest⟩
theorem Mine.base {w wr : World} {e : TypeId} {A : Option Addr} {m c : Nat} {xs : List Value} (h : Mine w wr e A m c xs) : wr.ownsRow w.heap.size e 1 (.slice A m c) m xs := own_base h.1 h.2.2
theorem Mine.of_base {w wr : World} {e : TypeId} {A : Option Addr} {m c : Nat} {xs : List Value} (h : wr.ownsRow w.heap.size e 1 (.slice A m c) m xs) (hk : Keeps (fun _ => False) w wr) : Mine w wr e A m c xs :=
 ⟨own_unbase h, hk, fun g hg => (h.lt g hg).1⟩
theorem wpList_run_append {P : Program} {w w' : World} {ops : Array Oper} {rest : List Oper} {o : Oper} {a : Act} {Q : Exit → Act → World → Prop} (hgd : o.guard = none) (s x : Operand) (t u : TypeId)
  (ho : o.op = .call { callee := .builtin .append, args := #[s, x], argTypes := #[t, u] }) (vs vx v : Value) (hs : a.eval s = vs) (hx : a.eval x = vx) (hrun : (Builtin.append_ #[t, u] o.type #[vs, vx]).run P w = .ok v w')
  (h : wpList P ops Q rest (a.put o.dst v) w') : wpList P ops Q (o :: rest) a w := by
 refine wpList_plain hgd fun K hK => ?_
 unfold Oper.wp execOp
 simp only [ho, resolve, invoke, builtin, Sem.run_bind, Sem.run_pure, Result.andThen_ok, List.map_toArray, List.map_cons, List.map_nil, hs, hx, hrun]
 exact hK _ _ h
end Go.Aff
namespace Go.Proofs.YtplleficmkfniaaGreatDoor
open Go Go.RowKit Go.Sha Go.Aff Go.Mac
theorem RdPartsO.at {F G : Nat → Prop} {w wr : World} {A : Option Addr} {pss : List (List Int)} (h : RdPartsO F w A pss) (hk : Keeps G w wr) (hG : ∀ i, G i → F i) {k : Nat} (hlt : k < pss.length) :
  ∃ g o bs A' c', A = some ⟨g, o, none⟩ ∧ pss[k]? = some bs ∧ wr.cell? ⟨g, o + k, none⟩ = some (.slice A' bs.length c') ∧ Rd wr A' bs.length (vb bs) ∧ IsBytes bs ∧ bs.length ≤ c' ∧ bs.length ≤ 140737488351232 := by
 obtain ⟨vals, hv, _, hparts⟩ := h.keep hk hG
 obtain ⟨g, o, e, hc⟩ := hv.2 (by omega)
 obtain ⟨bs, hbs⟩ : ∃ bs, pss[k]? = some bs := ⟨_, List.getElem?_eq_getElem hlt⟩
 obtain ⟨A', c', h1, h2, _, h4, h5, h6⟩ := hparts k bs hbs
 exact ⟨g, o, bs, A', c', e, hbs, (hc k hlt).trans h1, h2, h4, h5, h6⟩
theorem strCells_nums {bs : List Int} (h : IsBytes bs) : Lib.strCells (strOfNums bs) = vb bs := by
 unfold Lib.strCells vb
 rw [strOfNums_data, List.map_map]
 apply List.map_congr_left
 intro x hx
 have := h x hx
 have e := ofNat_int x.toNat (by omega)
 simp only [Function.comp]
 rw [e]
 congr 1
 omega
theorem lenF_bytes (n : Nat) : IsBytes (lenF n) := by
 intro x hx
 unfold lenF at hx
 obtain ⟨b, _, rfl⟩ := List.mem_map.1 hx
 have := b.toNat_lt
 omega
theorem append_str {w wr : World} {A : Option Addr} {m c : Nat} {xs : List Value} (h : Mine w wr 5 A m c xs) (bs : List Int) (q : Nat) (hq : bs.length = q) (hb : IsBytes bs) (hm : m + q ≤ 140737488355328) (ty : TypeId) :
  ∃ A' c' w', (Builtin.append_ #[48, 9] ty #[.slice A m c, .string (strOfNums bs)]).run Tryz.prog wr = .ok (.slice A' (m + q) c') w' ∧ Mine w w' 5 A' (m + q) c' (xs ++ vb bs) := by
 obtain ⟨i0, hi, hz0, hz1, hz2⟩ := info_parts info5
 have hsz : (strOfNums bs).size = q := by rw [strOfNums_size, hq]
 obtain ⟨v', w', h1, h2, h3, _⟩ := Lib.run_append_own_string (P := Tryz.prog) wr w.heap.size 48 9 ty 5 i0 Tryz.underlying48 Tryz.underlying9 hi hz0 hz1 hz2 (.slice A m c) m xs h.base (strOfNums bs) (by rw [hsz]; unfold maxLen; omega) (by rw [hsz]; omega) h.2.1.size
 rw [hsz, strCells_nums hb] at h2
 obtain ⟨A', c', rfl⟩ := own_shape h2
 refine ⟨A', c', w', ?_, Mine.of_base h2 (h.2.1.grown h3 (fun g e => .inr (h.2.2 g e)))⟩
 exact h1
theorem length_any (n : Nat) (hn : n ≤ 140737488355328) : ∀ w : World, Calls Tryz.prog 212 #[.int .i64 n] w fun e w' => e = .returned (.string (strOfNums (lenF n))) ∧ Keeps (fun _ => False) w w' := by
 induction n using Nat.strongRecOn with
 | _ n ih =>
 intro w
 have HCV : Hid (∀ (W : World) (A : Option Addr) (z : Int), Rd W A 1 [Value.int .u8 z] → (convert 48 9 (.slice A 1 1)).run Tryz.prog W = .ok (.string (strOfNums [z])) W) := H_ fun W A z h => convert_rd W Tryz.underlying48 Tryz.underlying5 Tryz.underlying9 1 h
 by_cases hlt : n < 10
 ·have hlt' : (n : Int) < 10 := by omega
  have HL := H_ (lenF_one hlt)
  have cv := HCV.out _ _ _ (Rd.of_blk (Blk.new w 5 [Value.int .u8 (48 + (n : Int))]) (n := 1) rfl)
  go_enter Tryz.func212, Tryz.ntmps212
  go_wp2
  go_ret
  exact ⟨by rw [HL.out]; rfl, (Keeps.refl _ w).alloc _⟩
 ·have HDD : Hid (strOfNums (lenF n) = strOfNums (lenF (n / 10)) ++ strOfNums [48 + (n : Int) % 10]) := H_ (by rw [strOf_app, ← lenF_more hlt])
  have HIH : Hid (∀ W, Keeps (fun _ => False) w W → Calls Tryz.prog 212 #[.int .i64 ((n : Int) / 10)] W fun e w' => e = .returned (.string (strOfNums (lenF (n / 10)))) ∧ Keeps (fun _ => False) W w') := H_ fun W _ => by
   have := ih (n / 10) (by omega) (by omega) W
   rwa [Int.natCast_ediv] at this
  have h10 : 10 ≤ (n : Int) := by omega
  clear ih
  have hsz : ¬ (9223372036854775807 < (strOfNums (lenF (n / 10))).size + (strOfNums [48 + (n : Int) % 10]).size) := by
   have := lenF_le (n / 10)
   rw [strOfNums_size, strOfNums_size]
   simp only [List.length_cons, List.length_nil]
   omega
  have w1 : IntKind.i64.wrap ((n : Int) / 10) = (n : Int) / 10 := IntWalk.i64_in _ (by omega)
  have w2 : (n : Int).tmod 10 = (n : Int) % 10 := Int.tmod_eq_emod_of_nonneg (by omega)
  have w3 : IntKind.i64.wrap (48 + (n : Int) % 10) = 48 + (n : Int) % 10 := IntWalk.i64_in _ (by omega)
  have w4 : IntKind.u8.wrap (48 + (n : Int) % 10) = 48 + (n : Int) % 10 := by rw [IntKind.wrap_u8]; omega
  go_enter Tryz.func212, Tryz.ntmps212
  go_wp2
  refine wp_region_held_drew (S := Keeps (fun _ => False) w) (by kernel_rfl) ((Keeps.refl (fun _ => False) _).drew) (fun h_ => ?_)
  refine tI 0 10 h_ ?_
  try simp only [pu]
  refine tI 1 11 h_ ?_
  try simp only [pu]
  refine tI 3 13 h_ ?_
  try simp only [pu]
  refine tI 4 14 h_ ?_
  try simp only [pu]
  refine tI 5 15 h_ ?_
  try simp only [pu]
  refine tI 6 16 h_ ?_
  try simp only [pu]
  refine wpAnyH_ready (rs := [2, 7]) (by kernel_rfl) (by simp) ?_
  refine (AllReadyH.cons (o := ⟨some 12, _, _, _, _, _⟩) rfl (fun K hK => ?_) (AllReadyH.cons (o := ⟨some 17, _, _, _, _, _⟩) rfl (fun K hK => ?_) AllReadyH.nil))
  ·go_simp
   refine (HIH.out _ h_).mono ?_
   rintro e wA ⟨rfl, hkA⟩
   have hqA := h_.trans hkA (fun _ _ h => h)
   refine hK.out _ _ hqA (fun h_ => ?_)
   clear hK K
   try simp only [pu]
   refine rH 7 (some 17) fun K hK => ?_
   go_simp
   have HB : Hid (Rd (wA.alloc (.cells #[.int .u8 (48 + (n : Int) % 10)] 5)) (some ⟨wA.heap.size, 0, none⟩) 1 [Value.int .u8 (48 + (n : Int) % 10)]) := H_ (Rd.of_blk (Blk.new wA 5 [Value.int .u8 (48 + (n : Int) % 10)]) rfl)
   refine hK.out _ _ (h_.alloc _) (fun h_ => ?_)
   clear hK K
   try simp only [pu]
   refine rH 8 (some 18) fun K hK => ?_
   have cv := HCV.out _ _ _ HB.out
   go_simp
   clear cv HB
   refine hK.out _ _ h_ (fun h_ => ?_)
   clear hK K
   try simp only [pu]
   refine tI 9 19 h_ ?_
   try simp only [pu]
   refine tI 10 2 h_ ?_
   try simp only [pu]
   refine wpAnyH_done (by kernel_rfl) ?_ _
   have HK := H_ h_
   go_wp2
   go_ret
   exact ⟨by rw [HDD.out]; rfl, HK.out⟩
  ·go_simp
   have HB : Hid (Rd (w.alloc (.cells #[.int .u8 (48 + (n : Int) % 10)] 5)).drew (some ⟨w.heap.size, 0, none⟩) 1 [Value.int .u8 (48 + (n : Int) % 10)]) := H_ ((Rd.of_blk (Blk.new w 5 [Value.int .u8 (48 + (n : Int) % 10)]) rfl).keep ((Keeps.refl (fun _ => False) _).drew) (no_out _ _))
   have h_ := h_.alloc (.cells #[.int .u8 (48 + (n : Int) % 10)] 5)
   refine hK.out _ _ (((Keeps.refl (fun _ => False) w).alloc _).drew) (fun h_ => ?_)
   clear hK K
   try simp only [pu]
   refine wpAnyH_ready (rs := [2, 8]) (by kernel_rfl) (by simp) ?_
   refine (AllReadyH.cons (o := ⟨some 12, _, _, _, _, _⟩) rfl (fun K hK => ?_) (AllReadyH.cons (o := ⟨some 18, _, _, _, _, _⟩) rfl (fun K hK => ?_) AllReadyH.nil))
   ·go_simp
    refine (HIH.out _ h_).mono ?_
    rintro e wA ⟨rfl, hkA⟩
    have hqA := h_.trans hkA (fun _ _ h => h)
    have HB := H_ (HB.out.keep hkA (no_out _ _))
    refine hK.out _ _ hqA (fun h_ => ?_)
    clear hK K
    try simp only [pu]
    refine rH 8 (some 18) fun K hK => ?_
    have cv := HCV.out _ _ _ HB.out
    go_simp
    clear cv HB
    refine hK.out _ _ h_ (fun h_ => ?_)
    clear hK K
    try simp only [pu]
    refine tI 9 19 h_ ?_
    try simp only [pu]
    refine tI 10 2 h_ ?_
    try simp only [pu]
    refine wpAnyH_done (by kernel_rfl) ?_ _
    have HK := H_ h_
    go_wp2
    go_ret
    exact ⟨by rw [HDD.out]; rfl, HK.out⟩
   ·have cv := HCV.out _ _ _ HB.out
    go_simp
    clear cv HB
    refine hK.out _ _ h_ (fun h_ => ?_)
    clear hK K
    try simp only [pu]
    refine rH 2 (some 12) fun K hK => ?_
    go_simp
    refine (HIH.out _ h_).mono ?_
    rintro e wA ⟨rfl, hkA⟩
    have hqA := h_.trans hkA (fun _ _ h => h)
    refine hK.out _ _ hqA (fun h_ => ?_)
    clear hK K
    try simp only [pu]
    refine tI 9 19 h_ ?_
    try simp only [pu]
    refine tI 10 2 h_ ?_
    try simp only [pu]
    refine wpAnyH_done (by kernel_rfl) ?_ _
    have HK := H_ h_
    go_wp2
    go_ret
    exact ⟨by rw [HDD.out]; rfl, HK.out⟩
theorem row_at {w : World} {A : Option Addr} {n N : Nat} {pss : List (List Int)} (hr : RdPartsO (fun _ => False) w A pss) (hnn : pss.length = n) (hN : (rowF pss).length = N) (wr : World) (k m : Nat) (hk : Keeps (fun _ => False) w wr) (hlt : k < n) (hm : (rowF (pss.take k)).length = m) :
  ∃ (g o : Nat) (bs : List Int) (q l : Nat) (A' : Option Addr) (c' : Nat), A = some ⟨g, o, none⟩ ∧ wr.cell? ⟨g, o + k, none⟩ = some (.slice A' q c') ∧ Rd w A' q (vb bs) ∧ q ≤ 140737488351232 ∧ (lenF q).length = l ∧ m + l + 1 + q + 1 ≤ N ∧ (rowF (pss.take (k + 1))).length = m + l + 1 + q + 1 ∧
   ((vb (rowF (pss.take k)) ++ vb (lenF q)) ++ [Value.int .u8 32]) ++ vb bs ++ [Value.int .u8 32] = vb (rowF (pss.take (k + 1))) := by
 obtain ⟨g, o, bs, A', c', e1, e2, e3, e4, _, _, e7⟩ := hr.at (k := k) (Keeps.refl (fun _ => False) w) (fun _ h => h) (by omega)
 have e3 := (hk.cell (p := ⟨g, o + k, none⟩) (World.block_lt_of_cell? w _ e3) (fun h => h)).trans e3
 have ht := rowF_take pss k bs e2
 have hl : (rowF (pss.take (k + 1))).length = m + (lenF bs.length).length + 1 + bs.length + 1 := by rw [ht]; simp; omega
 have := rowF_mono pss (k + 1)
 exact ⟨g, o, bs, bs.length, (lenF bs.length).length, A', c', e1, e3, e4, e7, rfl, by omega, hl, by rw [ht]; simp [vb]⟩
theorem rrow_any (w : World) (A : Option Addr) (n c : Nat) (pss : List (List Int)) (N : Nat) (hnn : pss.length = n) (hr : RdPartsO (fun _ => False) w A pss) (hn : n ≤ 1048576) (hN : (rowF pss).length = N) (hbig : N ≤ 16777216) :
  Calls Tryz.prog 178 #[.slice A n c] w fun e w' => ∃ A' c', e = .returned (.slice A' N c') ∧ Mine w w' 5 A' N c' (vb (rowF pss)) := by
 have HAT := H_ (row_at hr hnn hN)
 have HTK : Hid (pss.take n = pss) := H_ (by rw [← hnn, List.take_length])
 have HNN := H_ hN
 clear hr hnn hN
 go_enter Tryz.func178, Tryz.ntmps178
 go_wp2
 go_loopw [3, 5, 8] (fun v _ i wr => ∃ (k m : Nat) (A' : Option Addr) (c' : Nat), k ≤ n ∧ i = .int .i64 k ∧ v = .slice A' m c' ∧ Hid ((rowF (pss.take k)).length = m) ∧ Hid (Mine w wr 5 A' m c' (vb (rowF (pss.take k))))) (fun _ _ i _ => n - (intOf i).toNat)
 case atStart => exact ⟨0, 0, none, 0, by omega, rfl, rfl, H_ rfl, H_ ⟨World.ownsRow_nil _ _ _ _, Keeps.refl _ _, fun g h => by cases h⟩⟩
 case round =>
  obtain ⟨k, m, A2, c2, hk, rfl, rfl, HM, HO⟩ := hrel
  by_cases hlt : k < n
  ·obtain ⟨g, o, bs, q, l, A1, c1, hA, hcell, hr1, hq, hl, hle, hlen, hcat⟩ := HAT.out wr k m HO.out.2.1 hlt HM.out
   subst hA
   have HE := H_ hcat
   have HL := H_ hlen
   have HR1 := H_ hr1
   have HLQ := H_ hl
   have HLB := H_ (lenF_bytes q)
   have HLN := H_ (length_any q (by omega) wr)
   obtain ⟨L, hL⟩ : ∃ L, L = lenF q := ⟨_, rfl⟩
   rw [← hL] at HLN HLB HLQ HE
   clear hcat hlen hr1 hl hL
   go_wp2_with (first
    | (go_at_call 212; refine HLN.out.mono ?_; rintro e w1 ⟨rfl, hk1⟩; have HO1 := H_ (HO.out.keep hk1); clear hk1; obtain ⟨A3, c3, w3, hrun3, hm3⟩ := append_str HO1.out L l HLQ.out HLB.out (by omega) 48; have HM3 := H_ hm3; have HRUN := H_ hrun3; have HO4 := H_ (hm3.1.alloc (.cells #[.int .u8 32] 5)); have HD4 := H_ (Rd.of_blk (Blk.new w3 5 [.int .u8 32]) (n := 1) rfl); clear hm3 hrun3)
    | (at_builtin; refine wpList_run_append rfl (.tmp 12) (.tmp 15) 48 9 rfl _ _ _ rfl rfl HRUN.out ?_)
    | (at_builtin; refine wpList_append_rd _ rfl (.tmp 17) (.tmp 18) 48 rfl 5 (.int .u8 0) 1 Tryz.underlying48 info5 rfl (.slice A3 (m + l) c3) (m + l) _ rfl HO4.out _ 1 1 _ rfl HD4.out (vb_one [32]) (by unfold maxLen; omega) (by omega) ?_; intro A5 c5 w5 hown5 hg5 hb5; have HM5 := H_ (HM3.out.app hown5 hg5 (by simpa only [World.size_alloc] using hb5)); have HR5 := H_ (HR1.out.keep HM5.out.2.1 (no_out _ _)); clear hown5 hg5 hb5)
    | (at_builtin; refine wpList_append_rd _ rfl (.tmp 20) (.tmp 21) 48 rfl 5 (.int .u8 0) 1 Tryz.underlying48 info5 rfl (.slice A5 (m + l + 1) c5) (m + l + 1) _ rfl HM5.out.1 A1 q c1 _ rfl HR5.out (vb_one _) (by unfold maxLen; omega) (by omega) ?_; intro A6 c6 w6 hown6 hg6 hb6; have HM6 := H_ (HM5.out.app0 hown6 hg6 hb6); have HO6 := H_ (HM6.out.1.alloc (.cells #[.int .u8 32] 5)); have HD6 := H_ (Rd.of_blk (Blk.new w6 5 [.int .u8 32]) (n := 1) rfl); clear hown6 hg6 hb6)
    | (at_builtin; refine wpList_append_rd _ rfl (.tmp 23) (.tmp 24) 48 rfl 5 (.int .u8 0) 1 Tryz.underlying48 info5 rfl (.slice A6 (m + l + 1 + q) c6) (m + l + 1 + q) _ rfl HO6.out _ 1 1 _ rfl HD6.out (vb_one [32]) (by unfold maxLen; omega) (by omega) ?_; intro A7 c7 w7 hown7 hg7 hb7; rw [HE.out] at hown7; have HM7 := H_ (HM6.out.app hown7 hg7 (by simpa only [World.size_alloc] using hb7)); clear hown7 hg7 hb7))
   go_roundw
   case rel => exact ⟨k + 1, m + l + 1 + q + 1, A7, c7, by omega, by go_num, rfl, HL, HM7⟩
   case measure => simp [intOf]; omega
  ·obtain rfl : k = n := by omega
   rw [HTK.out] at HM HO
   rw [HNN.out] at HM
   obtain rfl := HM.out
   clear HM
   go_wp2
   go_ret
   exact ⟨_, _, rfl, HO.out⟩
theorem appendInt_any {w W : World} {A : Option Addr} {m c : Nat} {xs : List Value} (h : Mine w W 5 A m c xs) (q l : Nat) (hq : q ≤ 140737488351232) (hl : (lenF q).length = l) (hm : m + 21 ≤ 140737488355328)
  (hT : Lib.TabBelow Tryz.prog w.heap.size w "internal/strconv.uint64pow10" .u64 Lib.pow10Tab) :
  Calls Tryz.prog 189 #[.slice A m c, .int .i64 q, .int .i64 10] W fun e w' => ∃ A' c', e = .returned (.slice A' (m + l) c') ∧ Mine w w' 5 A' (m + l) c' (xs ++ vb (lenF q)) := by
 have hb : Below w.heap.size w W := h.2.1.to_below (fun _ _ h => h)
 refine (Tryz.strconv_AppendInt_10 w.heap.size m q (by omega) (by omega) (.slice A m c) xs W h.base h.2.1.size hm (hT.on hb)).mono fun e w' ⟨v', he, ho, hbl, _⟩ => ?_
 have e1 : (Lib.itoa (q : Int)) = Lib.decDigits q := Lib.itoa_nonneg q
 have e2 : (Lib.decDigits q).length = l := by rw [← hl]; simp [lenF]
 rw [e1, e2, byteCells_lenF] at ho
 obtain ⟨A', c', rfl⟩ := own_shape ho
 exact ⟨A', c', he, Mine.of_base ho (h.2.1.trans (Keeps.below hbl) (fun i hi hB => by omega))⟩
theorem hrow_any (w : World) (hT : Lib.TabBelow Tryz.prog w.heap.size w "internal/strconv.uint64pow10" .u64 Lib.pow10Tab) (A : Option Addr) (n c : Nat) (pss : List (List Int)) (N : Nat) (hnn : pss.length = n) (hr : RdPartsO (fun _ => False) w A pss) (hn : n ≤ 1048576) (hN : (rowF pss).length = N) (hbig : N ≤ 16777216) :
  Calls Tryz.prog 144 #[.slice A n c] w fun e w' => ∃ A' c', e = .returned (.slice A' N c') ∧ Mine w w' 5 A' N c' (vb (rowF pss)) := by
 have HAT := H_ (row_at hr hnn hN)
 have HTK : Hid (pss.take n = pss) := H_ (by rw [← hnn, List.take_length])
 have HNN := H_ hN
 have HAI : Hid (∀ {W : World} {A : Option Addr} {m c : Nat} {xs : List Value}, Mine w W 5 A m c xs → ∀ (q l : Nat), q ≤ 140737488351232 → (lenF q).length = l → m + 21 ≤ 140737488355328 →
  Calls Tryz.prog 189 #[.slice A m c, .int .i64 q, .int .i64 10] W fun e w' => ∃ A' c', e = .returned (.slice A' (m + l) c') ∧ Mine w w' 5 A' (m + l) c' (xs ++ vb (lenF q))) := H_ fun h q l h1 h2 h3 => appendInt_any h q l h1 h2 h3 hT
 clear hr hnn hN hT
 go_enter Tryz.func144, Tryz.ntmps144
 go_wp2
 go_loopw [3, 5, 8] (fun v _ i wr => ∃ (k m : Nat) (A' : Option Addr) (c' : Nat), k ≤ n ∧ i = .int .i64 k ∧ v = .slice A' m c' ∧ Hid ((rowF (pss.take k)).length = m) ∧ Hid (Mine w wr 5 A' m c' (vb (rowF (pss.take k))))) (fun _ _ i _ => n - (intOf i).toNat)
 case atStart => exact ⟨0, 0, none, 0, by omega, rfl, rfl, H_ rfl, H_ ⟨World.ownsRow_nil _ _ _ _, Keeps.refl _ _, fun g h => by cases h⟩⟩
 case round =>
  obtain ⟨k, m, A2, c2, hk, rfl, rfl, HM, HO⟩ := hrel
  by_cases hlt : k < n
  ·obtain ⟨g, o, bs, q, l, A1, c1, hA, hcell, hr1, hq, hl, hle, hlen, hcat⟩ := HAT.out wr k m HO.out.2.1 hlt HM.out
   subst hA
   have HE := H_ hcat
   have HL := H_ hlen
   have HR1 := H_ hr1
   have HLN := H_ (HAI.out HO.out q l (by omega) hl (by omega))
   obtain ⟨L, hL⟩ : ∃ L, L = lenF q := ⟨_, rfl⟩
   rw [← hL] at HLN HE
   clear hcat hlen hr1 hl hL
   go_wp2_with (first
    | (go_at_call 189; refine HLN.out.mono ?_; rintro e w3 ⟨A3, c3, rfl, hm3⟩; have HM3 := H_ hm3; have HO4 := H_ (hm3.1.alloc (.cells #[.int .u8 32] 5)); have HD4 := H_ (Rd.of_blk (Blk.new w3 5 [.int .u8 32]) (n := 1) rfl); clear hm3)
    | (at_builtin; refine wpList_append_rd _ rfl (.tmp 16) (.tmp 17) 48 rfl 5 (.int .u8 0) 1 Tryz.underlying48 info5 rfl (.slice A3 (m + l) c3) (m + l) _ rfl HO4.out _ 1 1 _ rfl HD4.out (vb_one [32]) (by unfold maxLen; omega) (by omega) ?_; intro A5 c5 w5 hown5 hg5 hb5; have HM5 := H_ (HM3.out.app hown5 hg5 (by simpa only [World.size_alloc] using hb5)); have HR5 := H_ (HR1.out.keep HM5.out.2.1 (no_out _ _)); clear hown5 hg5 hb5)
    | (at_builtin; refine wpList_append_rd _ rfl (.tmp 19) (.tmp 20) 48 rfl 5 (.int .u8 0) 1 Tryz.underlying48 info5 rfl (.slice A5 (m + l + 1) c5) (m + l + 1) _ rfl HM5.out.1 A1 q c1 _ rfl HR5.out (vb_one _) (by unfold maxLen; omega) (by omega) ?_; intro A6 c6 w6 hown6 hg6 hb6; have HM6 := H_ (HM5.out.app0 hown6 hg6 hb6); have HO6 := H_ (HM6.out.1.alloc (.cells #[.int .u8 32] 5)); have HD6 := H_ (Rd.of_blk (Blk.new w6 5 [.int .u8 32]) (n := 1) rfl); clear hown6 hg6 hb6)
    | (at_builtin; refine wpList_append_rd _ rfl (.tmp 22) (.tmp 23) 48 rfl 5 (.int .u8 0) 1 Tryz.underlying48 info5 rfl (.slice A6 (m + l + 1 + q) c6) (m + l + 1 + q) _ rfl HO6.out _ 1 1 _ rfl HD6.out (vb_one [32]) (by unfold maxLen; omega) (by omega) ?_; intro A7 c7 w7 hown7 hg7 hb7; rw [HE.out] at hown7; have HM7 := H_ (HM6.out.app hown7 hg7 (by simpa only [World.size_alloc] using hb7)); clear hown7 hg7 hb7))
   go_roundw
   case rel => exact ⟨k + 1, m + l + 1 + q + 1, A7, c7, by omega, by go_num, rfl, HL, HM7⟩
   case measure => simp [intOf]; omega
  ·obtain rfl : k = n := by omega
   rw [HTK.out] at HM HO
   rw [HNN.out] at HM
   obtain rfl := HM.out
   clear HM
   go_wp2
   go_ret
   exact ⟨_, _, rfl, HO.out⟩
end Go.Proofs.YtplleficmkfniaaGreatDoor
namespace Go.Dig
open Go Go.Sha Go.Aff Go.Json Go.Book Go.Mac
def Cl (a b : List (List Int)) : Prop := ∃ x ∈ a, ∃ y ∈ b, x ≠ y ∧ hsh x = hsh y
theorem Cl.mono {a b a' b' : List (List Int)} (h : Cl a b) (ha : ∀ x ∈ a, x ∈ a') (hb : ∀ x ∈ b, x ∈ b') : Cl a' b' := by
 obtain ⟨x, h1, y, h2, h3⟩ := h
 exact ⟨x, ha x h1, y, hb y h2, h3⟩
theorem Cl.at_ {a b : List (List Int)} (h : Cl a b) : ¬ NoClash a b := by
 obtain ⟨x, h1, y, h2, h3, h4⟩ := h
 obtain ⟨i, hi, rfl⟩ := List.mem_iff_getElem.1 h1
 obtain ⟨k, hk, rfl⟩ := List.mem_iff_getElem.1 h2
 exact fun hn => hn i k ⟨_, _, List.getElem?_eq_getElem hi, List.getElem?_eq_getElem hk, h3, h4⟩
theorem one_or {a b : List (List Int)} {x y : List Int} (hx : x ∈ a) (hy : y ∈ b) (h : hsh x = hsh y) : x = y ∨ Cl a b := by
 by_cases e : x = y
 ·exact .inl e
 ·exact .inr ⟨x, hx, y, hy, e, h⟩
theorem nodeT_inj {a b a' b' : List Int} (ha : a.length = a'.length) (h : nodeT a b = nodeT a' b') : a = a' ∧ b = b' := by
 unfold nodeT at h
 injection h with _ h
 exact List.append_inj h ha
theorem leafT_inj {a b : List Int} (h : leafT a = leafT b) : a = b := by unfold leafT at h; injection h
theorem allTx_ne {l : List (List Int)} (h : l ≠ []) : allTx l = rowTx l := by unfold allTx; rw [if_neg h]
theorem row_or : ∀ (n : Nat) (l m : List (List Int)), l.length = n → m.length = n → rowD l = rowD m → l = m ∨ Cl (allTx l) (allTx m) := by
 intro n
 induction n using Nat.strongRecOn with
 | _ n ih =>
  intro l m hl hm h
  by_cases h2 : 2 ≤ n
  ·have hl2 : 2 ≤ l.length := by omega
   have hm2 : 2 ≤ m.length := by omega
   have s1 := spl_pos n
   have s2 := spl_lt h2
   have hln : l ≠ [] := by rintro rfl; simp at hl; omega
   have hmn : m ≠ [] := by rintro rfl; simp at hm; omega
   have htl : l.take (spl l.length) ≠ [] := by intro e; have := congrArg List.length e; simp at this; rw [hl] at this; rcases this with h | h; omega; exact hln h
   have htm : m.take (spl m.length) ≠ [] := by intro e; have := congrArg List.length e; simp at this; rw [hm] at this; rcases this with h | h; omega; exact hmn h
   have hdl : l.drop (spl l.length) ≠ [] := by intro e; have := congrArg List.length e; simp at this; rw [hl] at this; omega
   have hdm : m.drop (spl m.length) ≠ [] := by intro e; have := congrArg List.length e; simp at this; rw [hm] at this; omega
   rw [rowD_two hl2, rowD_two hm2] at h
   rw [allTx_ne hln, allTx_ne hmn, rowTx_two hl2, rowTx_two hm2]
   rcases one_or (a := rowTx (l.take (spl l.length)) ++ rowTx (l.drop (spl l.length)) ++ [nodeT (rowD (l.take (spl l.length))) (rowD (l.drop (spl l.length)))]) (b := rowTx (m.take (spl m.length)) ++ rowTx (m.drop (spl m.length)) ++ [nodeT (rowD (m.take (spl m.length))) (rowD (m.drop (spl m.length)))]) (List.mem_append_right _ (List.mem_singleton.2 rfl)) (List.mem_append_right _ (List.mem_singleton.2 rfl)) h with e | hc
   ·obtain ⟨e1, e2⟩ := nodeT_inj (by rw [rowD_len, rowD_len]) e
    rcases ih (spl n) s2 _ _ (by rw [List.length_take, hl]; omega) (by rw [List.length_take, hm]; omega) e1 with h1 | h1
    ·rcases ih (n - spl n) (by omega) _ _ (by rw [List.length_drop, hl]) (by rw [List.length_drop, hm]) e2 with h3 | h3
     ·left
      rw [← List.take_append_drop (spl l.length) l, ← List.take_append_drop (spl m.length) m, h1, h3]
     ·right
      rw [allTx_ne hdl, allTx_ne hdm] at h3
      exact h3.mono (fun x hx => List.mem_append_left _ (List.mem_append_right _ hx)) (fun x hx => List.mem_append_left _ (List.mem_append_right _ hx))
    ·right
     rw [allTx_ne htl, allTx_ne htm] at h1
     exact h1.mono (fun x hx => List.mem_append_left _ (List.mem_append_left _ hx)) (fun x hx => List.mem_append_left _ (List.mem_append_left _ hx))
   ·exact .inr hc
  ·match l, m, hl, hm with
   | [], [], _, _ => exact .inl rfl
   | [d], [e], _, _ =>
    rw [rowD_one, rowD_one] at h
    rw [allTx_ne (by simp), allTx_ne (by simp), rowTx_one, rowTx_one]
    rcases one_or (a := [leafT d]) (b := [leafT e]) (by simp) (by simp) h with e1 | e1
    ·exact .inl (by rw [leafT_inj e1])
    ·exact .inr e1
   | [], _ :: _, h1, h2 => simp at h1 h2; omega
   | _ :: _, [], h1, h2 => simp at h1 h2; omega
   | _ :: _ :: _, _, h1, _ => simp at h1; omega
   | [_], _ :: _ :: _, h1, h2 => simp at h1 h2; omega
theorem eight_len (n : Nat) : (eight n).length = 8 := by simp [eight]
theorem eight_inj {a b : Nat} (ha : a < 18446744073709551616) (hb : b < 18446744073709551616) (h : eight a = eight b) : a = b := by
 have hk : ∀ k, k < 8 → a / 256 ^ (7 - k) % 256 = b / 256 ^ (7 - k) % 256 := fun k hk => by
  have h1 : (eight a)[k]? = (eight b)[k]? := by rw [h]
  unfold eight at h1
  rw [List.getElem?_map, List.getElem?_map, List.getElem?_range hk] at h1
  simp only [Option.map_some, Option.some.injEq] at h1
  exact Int.ofNat.inj h1
 have h0 := hk 0 (by omega)
 have h1 := hk 1 (by omega)
 have h2 := hk 2 (by omega)
 have h3 := hk 3 (by omega)
 have h4 := hk 4 (by omega)
 have h5 := hk 5 (by omega)
 have h6 := hk 6 (by omega)
 have h7 := hk 7 (by omega)
 simp only [Nat.reduceSub, Nat.reducePow] at h0 h1 h2 h3 h4 h5 h6 h7
 omega
theorem lenF_digit (n : Nat) : ∀ x ∈ lenF n, 48 ≤ x ∧ x ≤ 57 := by
 induction n using Nat.strongRecOn with
 | _ n ih =>
  intro x hx
  by_cases h : n < 10
  ·rw [lenF_one h, List.mem_singleton] at hx; omega
  ·rw [lenF_more h] at hx
   rcases List.mem_append.1 hx with h1 | h1
   ·exact ih (n / 10) (by omega) x h1
   ·rw [List.mem_singleton] at h1; omega
theorem split_at {a b c d : List Int} {z : Int} (ha : z ∉ a) (hc : z ∉ c) (h : a ++ z :: b = c ++ z :: d) : a = c ∧ b = d := by
 induction a generalizing c with
 | nil => cases c with
  | nil => simp at h; exact ⟨rfl, h⟩
  | cons y c => simp at h; exact absurd (by rw [h.1]; simp) hc
 | cons x a ih => cases c with
  | nil => simp at h; exact absurd (by rw [← h.1]; simp) ha
  | cons y c =>
   simp only [List.cons_append, List.cons.injEq] at h
   obtain ⟨e1, e2⟩ := ih (fun hh => ha (List.mem_cons_of_mem _ hh)) (fun hh => hc (List.mem_cons_of_mem _ hh)) h.2
   exact ⟨by rw [h.1, e1], e2⟩
theorem rowF_one (k : List Int) : Mac.rowF [k] = lenF k.length ++ 32 :: (k ++ [32]) := by unfold Mac.rowF; simp
theorem memT_inj {k k' : ByteArray} {d d' : List Int} (hd : d.length = d'.length) (h : memT k d = memT k' d') : k = k' ∧ d = d' := by
 unfold memT at h
 injection h with _ h
 have hn : ∀ n, (32 : Int) ∉ lenF n := fun n hm => by have := lenF_digit n 32 hm; omega
 obtain ⟨h1, h2⟩ := List.append_inj' h hd
 rw [rowF_one, rowF_one] at h1
 obtain ⟨_, h3⟩ := split_at (hn _) (hn _) h1
 exact ⟨sb_inj (List.append_inj_left' h3 rfl), h2⟩
def _root_.Go.Json.JV.top : JV → List Int
 | .null => [110]
 | .flag b => [if b then 116 else 102]
 | .num b => 100 :: eight b
 | .text s => 115 :: sb s
 | .list l => grpT 5 l.length (rowD (l.map fun x => x.dg))
 | .obj ks l => grpT 6 l.length (rowD (memsD ks (l.map fun x => x.dg)))
theorem dg_top (j : JV) : j.dg = hsh j.top := by cases j <;> rw [JV.dg, JV.top] <;> rfl
theorem top_mem (j : JV) : j.top ∈ j.tx := by
 cases j <;> rw [JV.tx, JV.top] <;> simp
inductive Fine : JV → Prop
 | mk (j : JV) (hn : ∀ b, j = .num b → b < 18446744073709551616) (hk : j.sort = 6 → j.keys.length = j.items.length) (hl : j.items.length < 18446744073709551616) (h : ∀ x, x ∈ j.items → Fine x) : Fine j
theorem Fine.num {b : Nat} (h : Fine (.num b)) : b < 18446744073709551616 := by cases h with | mk _ hn _ _ _ => exact hn b rfl
theorem Fine.keys {ks : List ByteArray} {l : List JV} (h : Fine (.obj ks l)) : ks.length = l.length := by cases h with | mk _ _ hk _ _ => exact hk rfl
theorem Fine.len {j : JV} (h : Fine j) : j.items.length < 18446744073709551616 := by cases h with | mk _ _ _ hl _ => exact hl
theorem Fine.item {j x : JV} (h : Fine j) (hx : x ∈ j.items) : Fine x := by cases h with | mk _ _ _ _ hi => exact hi x hx
theorem memsD_len {ks : List ByteArray} {ds : List (List Int)} (h : ks.length = ds.length) : (memsD ks ds).length = ds.length := by
 unfold memsD; rw [List.length_map, List.length_zip]; omega
theorem grpT_inj {s s' : Int} {n n' : Nat} {r r' : List Int} (hs : s = 5 ∨ s = 6) (hs' : s' = 5 ∨ s' = 6) (hn : n < 18446744073709551616) (hn' : n' < 18446744073709551616) (h : grpT s n r = grpT s' n' r') : s = s' ∧ n = n' ∧ r = r' := by
 unfold grpT at h
 injection h with h1 h2
 obtain ⟨h3, h4⟩ := List.append_inj h2 (by rw [eight_len, eight_len])
 refine ⟨?_, eight_inj hn hn' h3, h4⟩
 rcases hs with rfl | rfl <;> rcases hs' with rfl | rfl <;> first | rfl | (simp at h1)
theorem items_or {P : Prop} : ∀ (l m : List JV), l.length = m.length → (∀ (x y : JV) (i : Nat), l[i]? = some x → m[i]? = some y → x = y ∨ P) → l = m ∨ P
 | [], [], _, _ => .inl rfl
 | [], _ :: _, h, _ => by simp at h
 | _ :: _, [], h, _ => by simp at h
 | x :: l, y :: m, h, hi => by
  rcases hi x y 0 rfl rfl with e | e
  ·rcases items_or l m (by simpa using h) (fun a b i ha hb => hi a b (i + 1) (by simpa using ha) (by simpa using hb)) with e2 | e2
   ·exact .inl (by rw [e, e2])
   ·exact .inr e2
  ·exact .inr e
theorem keys_or {P : Prop} : ∀ (l m : List ByteArray), l.length = m.length → (∀ (x y : ByteArray) (i : Nat), l[i]? = some x → m[i]? = some y → x = y ∨ P) → l = m ∨ P
 | [], [], _, _ => .inl rfl
 | [], _ :: _, h, _ => by simp at h
 | _ :: _, [], h, _ => by simp at h
 | x :: l, y :: m, h, hi => by
  rcases hi x y 0 rfl rfl with e | e
  ·rcases keys_or l m (by simpa using h) (fun a b i ha hb => hi a b (i + 1) (by simpa using ha) (by simpa using hb)) with e2 | e2
   ·exact .inl (by rw [e, e2])
   ·exact .inr e2
  ·exact .inr e
theorem memsD_at {ks : List ByteArray} {l : List JV} {i : Nat} {k : ByteArray} {x : JV} (hk : ks[i]? = some k) (hx : l[i]? = some x) : (memsD ks (l.map fun x => x.dg))[i]? = some (memD k x.dg) := by
 unfold memsD
 rw [List.getElem?_map]
 have : (ks.zip (l.map fun x => x.dg))[i]? = some (k, x.dg) := by
  rw [List.getElem?_zip_eq_some]
  exact ⟨hk, by rw [List.getElem?_map, hx]; rfl⟩
 rw [this]; rfl
theorem tx_mem {ks : List ByteArray} {l : List JV} {i : Nat} {k : ByteArray} {x : JV} (hk : ks[i]? = some k) (hx : l[i]? = some x) : (∀ t ∈ x.tx, t ∈ (JV.obj ks l).tx) ∧ memT k x.dg ∈ (JV.obj ks l).tx := by
 have hz : (ks.zip (l.map fun x => (x.tx, x.dg)))[i]? = some (k, (x.tx, x.dg)) := by
  rw [List.getElem?_zip_eq_some]
  exact ⟨hk, by rw [List.getElem?_map, hx]; rfl⟩
 have hm := List.mem_of_getElem? hz
 rw [JV.tx]
 refine ⟨fun t ht => ?_, ?_⟩
 ·refine List.mem_append_left _ (List.mem_append_left _ (List.mem_flatten.2 ⟨_, List.mem_map.2 ⟨_, hm, rfl⟩, ?_⟩))
  exact List.mem_append_left _ ht
 ·refine List.mem_append_left _ (List.mem_append_left _ (List.mem_flatten.2 ⟨_, List.mem_map.2 ⟨_, hm, rfl⟩, ?_⟩))
  exact List.mem_append_right _ (List.mem_singleton.2 rfl)
theorem tx_item {l : List JV} {i : Nat} {x : JV} (hx : l[i]? = some x) : ∀ t ∈ x.tx, t ∈ (JV.list l).tx := fun t ht => by
 rw [JV.tx]
 exact List.mem_append_left _ (List.mem_append_left _ (List.mem_flatten.2 ⟨_, List.mem_map.2 ⟨_, List.mem_of_getElem? hx, rfl⟩, ht⟩))
theorem tx_row_list (l : List JV) : ∀ t ∈ allTx (l.map fun x => x.dg), t ∈ (JV.list l).tx := fun t ht => by rw [JV.tx]; exact List.mem_append_left _ (List.mem_append_right _ ht)
theorem tx_row_obj (ks : List ByteArray) (l : List JV) : ∀ t ∈ allTx (memsD ks (l.map fun x => x.dg)), t ∈ (JV.obj ks l).tx := fun t ht => by rw [JV.tx]; exact List.mem_append_left _ (List.mem_append_right _ ht)
theorem same_or : ∀ (a b : JV), Fine a → Fine b → a.dg = b.dg → a = b ∨ Cl a.tx b.tx := by
 intro a
 induction a using JV.ind with
 | h0 | h1 | h2 | h3 =>
  intro b ha hb h
  rw [dg_top, dg_top] at h
  rcases one_or (top_mem _) (top_mem b) h with e | e
  ·left
   cases b <;> simp only [JV.top, grpT, List.cons.injEq] at e <;>
    first
    | rfl
    | (exfalso; revert e; (repeat' split) <;> simp; done)
    | (rw [eight_inj ha.num hb.num e.2])
    | (rw [sb_inj e.2])
    | (congr 1; revert e; (repeat' split) <;> simp_all)
  ·exact .inr e
 | h4 l ih =>
  intro b ha hb h
  have h' := h
  rw [dg_top, dg_top] at h
  rcases one_or (top_mem _) (top_mem b) h with e | e
  ·cases b with
   | list m =>
    simp only [JV.top] at e
    obtain ⟨_, hn, hr⟩ := grpT_inj (.inl rfl) (.inl rfl) ha.len hb.len e
    have hn : l.length = m.length := hn
    rcases row_or l.length _ _ (by simp) (by simp [hn]) hr with h1 | h1
    ·rcases items_or (P := Cl (JV.list l).tx (JV.list m).tx) l m hn (fun x y i hx hy => by
      have e1 : (l.map fun x => x.dg)[i]? = (m.map fun x => x.dg)[i]? := by rw [h1]
      rw [List.getElem?_map, List.getElem?_map, hx, hy] at e1
      injection e1 with e1
      rcases ih x (List.mem_of_getElem? hx) y (ha.item (List.mem_of_getElem? hx)) (hb.item (List.mem_of_getElem? hy)) e1 with h2 | h2
      ·exact .inl h2
      ·exact .inr (h2.mono (tx_item hx) (tx_item hy))) with h3 | h3
     ·exact .inl (by rw [h3])
     ·exact .inr h3
    ·exact .inr (h1.mono (tx_row_list l) (tx_row_list m))
   | obj ks m =>
    simp only [JV.top] at e
    obtain ⟨h1, _⟩ := grpT_inj (.inl rfl) (.inr rfl) ha.len hb.len e
    simp at h1
   | null => simp only [JV.top, grpT, List.cons.injEq] at e; simp at e
   | flag b => simp only [JV.top, grpT, List.cons.injEq] at e; cases b <;> simp at e
   | num b => simp only [JV.top, grpT, List.cons.injEq] at e; simp at e
   | text s => simp only [JV.top, grpT, List.cons.injEq] at e; simp at e
  ·exact .inr e
 | h5 ks l ih =>
  intro b ha hb h
  rw [dg_top, dg_top] at h
  rcases one_or (top_mem _) (top_mem b) h with e | e
  ·cases b with
   | obj ms m =>
    simp only [JV.top] at e
    obtain ⟨_, hn, hr⟩ := grpT_inj (.inr rfl) (.inr rfl) ha.len hb.len e
    have hn : l.length = m.length := hn
    have hkl := ha.keys
    have hkm := hb.keys
    rcases row_or l.length _ _ (by rw [memsD_len (by simpa using hkl)]; simp) (by rw [memsD_len (by simpa using hkm)]; simp [hn]) hr with h1 | h1
    ·have step : ∀ (i : Nat) (k k' : ByteArray) (x y : JV), ks[i]? = some k → ms[i]? = some k' → l[i]? = some x → m[i]? = some y → (k = k' ∧ x = y) ∨ Cl (JV.obj ks l).tx (JV.obj ms m).tx := fun i k k' x y hk hk' hx hy => by
      have e1 : (memsD ks (l.map fun x => x.dg))[i]? = (memsD ms (m.map fun x => x.dg))[i]? := by rw [h1]
      rw [memsD_at hk hx, memsD_at hk' hy] at e1
      injection e1 with e1
      rcases one_or (tx_mem hk hx).2 (tx_mem hk' hy).2 e1 with h2 | h2
      ·obtain ⟨h3, h4⟩ := memT_inj (by rw [dg_len, dg_len]) h2
       rcases ih x (List.mem_of_getElem? hx) y (ha.item (List.mem_of_getElem? hx)) (hb.item (List.mem_of_getElem? hy)) h4 with h5 | h5
       ·exact .inl ⟨h3, h5⟩
       ·exact .inr (h5.mono (tx_mem hk hx).1 (tx_mem hk' hy).1)
      ·exact .inr h2
     have hget : ∀ (q : List JV) (i : Nat), i < q.length → ∃ x, q[i]? = some x := fun q i hi => ⟨_, List.getElem?_eq_getElem hi⟩
     have hgek : ∀ (q : List ByteArray) (i : Nat), i < q.length → ∃ x, q[i]? = some x := fun q i hi => ⟨_, List.getElem?_eq_getElem hi⟩
     rcases items_or (P := Cl (JV.obj ks l).tx (JV.obj ms m).tx) l m hn (fun x y i hx hy => by
      have hi := (List.getElem?_eq_some_iff.1 hx).1
      obtain ⟨k, hk⟩ := hgek ks i (by omega)
      obtain ⟨k', hk'⟩ := hgek ms i (by omega)
      exact (step i k k' x y hk hk' hx hy).imp (fun h => h.2) id) with h3 | h3
     ·rcases keys_or (P := Cl (JV.obj ks l).tx (JV.obj ms m).tx) ks ms (by omega) (fun k k' i hk hk' => by
       have hi := (List.getElem?_eq_some_iff.1 hk).1
       obtain ⟨x, hx⟩ := hget l i (by omega)
       obtain ⟨y, hy⟩ := hget m i (by omega)
       exact (step i k k' x y hk hk' hx hy).imp (fun h => h.1) id) with h4 | h4
      ·exact .inl (by rw [h3, h4])
      ·exact .inr h4
     ·exact .inr h3
    ·exact .inr (h1.mono (tx_row_obj ks l) (tx_row_obj ms m))
   | list m =>
    simp only [JV.top] at e
    obtain ⟨h1, _⟩ := grpT_inj (.inr rfl) (.inl rfl) ha.len hb.len e
    simp at h1
   | null => simp only [JV.top, grpT, List.cons.injEq] at e; simp at e
   | flag b => simp only [JV.top, grpT, List.cons.injEq] at e; cases b <;> simp at e
   | num b => simp only [JV.top, grpT, List.cons.injEq] at e; simp at e
   | text s => simp only [JV.top, grpT, List.cons.injEq] at e; simp at e
  ·exact .inr e
theorem rowTx_len : ∀ (n : Nat) (l : List (List Int)), l.length = n → (rowTx l).length ≤ 2 * n + 1 ∧ (1 ≤ n → (rowTx l).length ≤ 2 * n - 1) := by
 intro n
 induction n using Nat.strongRecOn with
 | _ n ih =>
  intro l hl
  by_cases h2 : 2 ≤ n
  ·have hl2 : 2 ≤ l.length := by omega
   have s1 := spl_pos n
   have s2 := spl_lt h2
   have h3 := (ih (spl n) s2 (l.take (spl l.length)) (by rw [List.length_take, hl]; omega)).2 (by omega)
   have h4 := (ih (n - spl n) (by omega) (l.drop (spl l.length)) (by rw [List.length_drop, hl])).2 (by omega)
   rw [rowTx_two hl2, List.length_append, List.length_append]
   simp only [List.length_cons, List.length_nil]
   omega
  ·rw [rowTx, dif_neg (by omega)]
   simp
   omega
theorem allTx_len (l : List (List Int)) : (allTx l).length ≤ 2 * l.length + 1 := by
 unfold allTx
 split
 ·simp
 ·exact (rowTx_len _ l rfl).1
theorem sum_le {f g : JV → Nat} : ∀ (l : List JV), (∀ x ∈ l, f x ≤ g x) → sumN (l.map f) ≤ sumN (l.map g)
 | [], _ => Nat.le_refl _
 | x :: l, h => by
  simp only [List.map_cons, sumN]
  have := h x (by simp)
  have := sum_le l (fun y hy => h y (by simp [hy]))
  omega
theorem flat_len (l : List JV) : ((l.map fun x => x.tx).flatten).length = sumN (l.map fun x => x.tx.length) := by
 induction l with
 | nil => rfl
 | cons x l ih => simp only [List.map_cons, List.flatten_cons, List.length_append, sumN, ih]
theorem sum_lin (l : List JV) : sumN (l.map fun x => 5 * x.nodes) = 5 * sumN (l.map fun x => x.nodes) := by
 induction l with
 | nil => rfl
 | cons x l ih => simp only [List.map_cons, sumN, ih]; omega
theorem len_nodes (l : List JV) : l.length ≤ sumN (l.map fun x => x.nodes) := by
 induction l with
 | nil => simp
 | cons x l ih =>
  simp only [List.map_cons, sumN, List.length_cons]
  have := JV.nodes_eq x
  omega
theorem flat_len2 : ∀ (ks : List ByteArray) (l : List JV), (((ks.zip (l.map fun x => (x.tx, x.dg))).map fun p => p.2.1 ++ [memT p.1 p.2.2]).flatten).length ≤ sumN (l.map fun x => x.tx.length) + l.length
 | [], l => by simp
 | _ :: _, [] => by simp
 | k :: ks, x :: l => by
  have := flat_len2 ks l
  simp only [List.map_cons, List.zip_cons_cons, List.flatten_cons, List.length_append, List.length_cons, List.length_nil, sumN] at this ⊢
  omega
theorem tx_few : ∀ j : JV, j.tx.length + 3 ≤ 5 * j.nodes := by
 intro j
 induction j using JV.ind with
 | h0 | h1 | h2 | h3 => simp [JV.tx, JV.nodes]
 | h4 l ih =>
  rw [JV.tx, JV.nodes, List.length_append, List.length_append, flat_len]
  have h1 := allTx_len (l.map fun x => x.dg)
  have h2 := sum_le (f := fun x => x.tx.length + 3) (g := fun x => 5 * x.nodes) l ih
  have h3 : sumN (l.map fun x => x.tx.length + 3) = sumN (l.map fun x => x.tx.length) + 3 * l.length := by
   clear ih h1 h2
   induction l with
   | nil => rfl
   | cons x l ih => simp only [List.map_cons, sumN, List.length_cons, ih]; omega
  rw [sum_lin] at h2
  rw [List.length_map] at h1
  simp only [List.length_cons, List.length_nil]
  omega
 | h5 ks l ih =>
  rw [JV.tx, JV.nodes, List.length_append, List.length_append]
  have h1 := allTx_len (memsD ks (l.map fun x => x.dg))
  have h2 := sum_le (f := fun x => x.tx.length + 3) (g := fun x => 5 * x.nodes) l ih
  have h3 : sumN (l.map fun x => x.tx.length + 3) = sumN (l.map fun x => x.tx.length) + 3 * l.length := by
   clear ih h1 h2
   induction l with
   | nil => rfl
   | cons x l ih => simp only [List.map_cons, sumN, List.length_cons, ih]; omega
  have h4 := flat_len2 ks l
  have h5 : (memsD ks (l.map fun x => x.dg)).length ≤ l.length := by unfold memsD; rw [List.length_map, List.length_zip, List.length_map]; omega
  rw [sum_lin] at h2
  simp only [List.length_cons, List.length_nil]
  omega
end Go.Dig
