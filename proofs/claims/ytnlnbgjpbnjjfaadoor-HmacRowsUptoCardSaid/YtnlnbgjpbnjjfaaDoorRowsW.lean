/-
  WALKS: the reference's length and Row; hmac.Row.
-/
import Derived.Test.YtnlnbgjpbnjjfaaDoorLentAllW
import Derived.Test.YtnlnbgjpbnjjfaaDoorShelfI
import Derived.Lib.AppendStr
import Derived.Lib.ItoaMem
import Derived.IntWalk
set_option linter.unusedSimpArgs false
namespace Go.Mac
open Go Go.Aff
/-- A number's digits. -/
def lenF (n : Nat) : List Int := (Lib.decDigits n).map fun b => (b.toNat : Int)
/-- The row of parts. -/
def rowF (pss : List (List Int)) : List Int := (pss.map fun bs => lenF bs.length ++ [32] ++ bs ++ [32]).flatten
theorem ofNat_int (k : Nat) (h : k < 256) : ((UInt8.ofNat k).toNat : Int) = (k : Int) := by
  have : (UInt8.ofNat k).toNat = k := by simp; omega
  rw [this]
theorem lenF_one {n : Nat} (h : n < 10) : lenF n = [48 + (n : Int)] := by
  unfold lenF
  rw [Lib.decDigits, dif_pos h]
  simp only [List.map_cons, List.map_nil]
  rw [ofNat_int _ (by omega), Int.natCast_add]; rfl
theorem lenF_more {n : Nat} (h : ¬ n < 10) : lenF n = lenF (n / 10) ++ [48 + (n : Int) % 10] := by
  have e : lenF n = ((if h : n < 10 then [UInt8.ofNat (48 + n)] else Lib.decDigits (n / 10) ++ [UInt8.ofNat (48 + n % 10)]).map fun b => (b.toNat : Int)) := by
    unfold lenF
    rw [Lib.decDigits]
  rw [e, dif_neg h, List.map_append]
  simp only [List.map_cons, List.map_nil]
  rw [ofNat_int _ (by omega), Int.natCast_add, Int.natCast_emod]; rfl
theorem lenF_le (n : Nat) : (lenF n).length ≤ n + 1 := by
  induction n using Nat.strongRecOn with
  | _ n ih =>
    by_cases h : n < 10
    · rw [lenF_one h]; simp
    · rw [lenF_more h, List.length_append]
      have := ih (n / 10) (by omega)
      simp only [List.length_cons, List.length_nil]
      omega
theorem byteCells_lenF (n : Nat) : Lib.byteCells (Lib.decDigits n) = vb (lenF n) := by
  unfold Lib.byteCells vb lenF
  rw [List.map_map]; rfl
theorem strOf_lenF (n : Nat) : (strOfNums (lenF n)).data.toList = Lib.decDigits n := by
  rw [strOfNums_data]
  unfold lenF
  rw [List.map_map]
  conv => rhs; rw [← List.map_id (Lib.decDigits n)]
  apply List.map_congr_left
  intro b _
  simp
theorem strOf_app (xs ys : List Int) : strOfNums xs ++ strOfNums ys = strOfNums (xs ++ ys) := by
  apply ByteArray.ext
  simp [strOfNums]
theorem rowF_take (pss : List (List Int)) (k : Nat) (bs : List Int) (h : pss[k]? = some bs) : rowF (pss.take (k + 1)) = rowF (pss.take k) ++ (lenF bs.length ++ [32] ++ bs ++ [32]) := by
  unfold rowF
  rw [List.take_add_one, h]
  simp
theorem rowF_le (pss : List (List Int)) : (rowF pss).length ≤ 2 * pss.flatten.length + 3 * pss.length := by
  unfold rowF
  induction pss with
  | nil => simp
  | cons b l ih =>
    have := lenF_le b.length
    simp only [List.map_cons, List.flatten_cons, List.length_append, List.length_cons, List.length_nil] at ih ⊢
    omega
theorem rowF_mono (pss : List (List Int)) (k : Nat) : (rowF (pss.take k)).length ≤ (rowF pss).length := by
  conv => rhs; rw [← List.take_append_drop k pss]
  unfold rowF
  simp only [List.map_append, List.flatten_append, List.length_append]
  omega
end Go.Mac
namespace Go.Aff
open Go Go.RowKit
theorem own_base {w : World} {e : TypeId} {s n B : Nat} {v : Value} {xs : List Value} (h : w.ownsRow 0 e s v n xs) (hB : ∀ g, v.ownBlock = some g → B ≤ g) : w.ownsRow B e s v n xs := by
  refine ⟨h.1, ?_⟩
  rcases h.2 with h0 | ⟨g, cap, cur, rfl, _, rest⟩
  · exact .inl h0
  · exact .inr ⟨g, cap, cur, rfl, hB g rfl, rest⟩
theorem own_unbase {w : World} {e : TypeId} {s n B : Nat} {v : Value} {xs : List Value} (h : w.ownsRow B e s v n xs) : w.ownsRow 0 e s v n xs := by
  refine ⟨h.1, ?_⟩
  rcases h.2 with h0 | ⟨g, cap, cur, rfl, _, rest⟩
  · exact .inl h0
  · exact .inr ⟨g, cap, cur, rfl, Nat.zero_le _, rest⟩
theorem Mine.base {w wr : World} {e : TypeId} {A : Option Addr} {m c : Nat} {xs : List Value} (h : Mine w wr e A m c xs) : wr.ownsRow w.heap.size e 1 (.slice A m c) m xs := own_base h.1 h.2.2
theorem Mine.of_base {w wr : World} {e : TypeId} {A : Option Addr} {m c : Nat} {xs : List Value} (h : wr.ownsRow w.heap.size e 1 (.slice A m c) m xs) (hk : Keeps (fun _ => False) w wr) : Mine w wr e A m c xs :=
  ⟨own_unbase h, hk, fun g hg => (h.lt g hg).1⟩
theorem wpList_run_append {P : Program} {w w' : World} {ops : Array Oper} {rest : List Oper} {o : Oper} {a : Act} {Q : Exit → Act → World → Prop} (hgd : o.guard = none) (s x : Operand) (t u : TypeId)
    (ho : o.op = .call { callee := .builtin .append, args := #[s, x], argTypes := #[t, u] }) (vs vx v : Value) (hs : a.eval s = vs) (hx : a.eval x = vx) (hrun : (Builtin.append_ #[t, u] o.type #[vs, vx]).run P w = .ok v w')
    (h : wpList P ops Q rest (a.put o.dst v) w') : wpList P ops Q (o :: rest) a w := by
  refine wpList_plain hgd fun K hK => ?_
  unfold Oper.wp execOp
  simp only [ho, resolve, invoke, builtin, Sem.run_bind, Sem.run_pure, Result.andThen_ok, List.map_toArray, List.map_cons, List.map_nil, hs, hx, hrun]
  exact hK _ _ h
end Go.Aff
namespace Go.Proofs.YtnlnbgjpbnjjfaaDoor
open Go Go.RowKit Go.Sha Go.Aff Go.Mac

theorem strCells_nums {bs : List Int} (h : IsBytes bs) : Lib.strCells (strOfNums bs) = vb bs := by
  unfold Lib.strCells vb
  rw [strOfNums_data, List.map_map]
  apply List.map_congr_left
  intro x hx
  have := h x hx
  have e := ofNat_int x.toNat (by omega)
  simp only [Function.comp]
  rw [e]
  congr 1
  omega
theorem lenF_bytes (n : Nat) : IsBytes (lenF n) := by
  intro x hx
  unfold lenF at hx
  obtain ⟨b, _, rfl⟩ := List.mem_map.1 hx
  have := b.toNat_lt
  omega
/-- append of a string onto a row of the call's own. -/
theorem append_str {w wr : World} {A : Option Addr} {m c : Nat} {xs : List Value} (h : Mine w wr 5 A m c xs) (bs : List Int) (q : Nat) (hq : bs.length = q) (hb : IsBytes bs) (hm : m + q ≤ 140737488355328) (ty : TypeId) :
    ∃ A' c' w', (Builtin.append_ #[22, 9] ty #[.slice A m c, .string (strOfNums bs)]).run Tryd.prog wr = .ok (.slice A' (m + q) c') w' ∧ Mine w w' 5 A' (m + q) c' (xs ++ vb bs) := by
  obtain ⟨i0, hi, hz0, hz1, hz2⟩ := info_parts info5
  have hsz : (strOfNums bs).size = q := by rw [strOfNums_size, hq]
  obtain ⟨v', w', h1, h2, h3, _⟩ := Lib.run_append_own_string (P := Tryd.prog) wr w.heap.size 22 9 ty 5 i0 Tryd.underlying22 Tryd.underlying9 hi hz0 hz1 hz2 (.slice A m c) m xs h.base (strOfNums bs) (by rw [hsz]; unfold maxLen; omega) (by rw [hsz]; omega) h.2.1.size
  rw [hsz, strCells_nums hb] at h2
  obtain ⟨A', c', rfl⟩ := own_shape h2
  refine ⟨A', c', w', ?_, Mine.of_base h2 (h.2.1.grown h3 (fun g e => .inr (h.2.2 g e)))⟩
  exact h1

set_option maxHeartbeats 1000000 in
set_option maxRecDepth 100000 in
theorem length_any (n : Nat) (hn : n ≤ 140737488355328) : ∀ w : World, Calls Tryd.prog 54 #[.int .i64 n] w fun e w' => e = .returned (.string (strOfNums (lenF n))) ∧ Keeps (fun _ => False) w w' := by
  induction n using Nat.strongRecOn with
  | _ n ih =>
  intro w
  have HCV : Hid (∀ (W : World) (A : Option Addr) (z : Int), Rd W A 1 [Value.int .u8 z] → (convert 22 9 (.slice A 1 1)).run Tryd.prog W = .ok (.string (strOfNums [z])) W) := Lib.hid fun W A z h => convert_rd W Tryd.underlying22 Tryd.underlying5 Tryd.underlying9 1 h
  by_cases hlt : n < 10
  · have hlt' : (n : Int) < 10 := by omega
    have HL := Lib.hid (lenF_one hlt)
    have cv := HCV.out _ _ _ (Rd.of_blk (Blk.new w 5 [Value.int .u8 (48 + (n : Int))]) (n := 1) rfl)
    go_enter Tryd.func54, Tryd.ntmps54
    go_wp2
    go_ret
    exact ⟨by rw [HL.out]; rfl, (Keeps.refl _ w).alloc _⟩
  · have HDD : Hid (strOfNums (lenF n) = strOfNums (lenF (n / 10)) ++ strOfNums [48 + (n : Int) % 10]) := Lib.hid (by rw [strOf_app, ← lenF_more hlt])
    have HIH : Hid (∀ W, Keeps (fun _ => False) w W → Calls Tryd.prog 54 #[.int .i64 ((n : Int) / 10)] W fun e w' => e = .returned (.string (strOfNums (lenF (n / 10)))) ∧ Keeps (fun _ => False) W w') := Lib.hid fun W _ => by
      have := ih (n / 10) (by omega) (by omega) W
      rwa [Int.natCast_ediv] at this
    have h10 : 10 ≤ (n : Int) := by omega
    clear ih
    have hsz : ¬ (9223372036854775807 < (strOfNums (lenF (n / 10))).size + (strOfNums [48 + (n : Int) % 10]).size) := by
      have := lenF_le (n / 10)
      rw [strOfNums_size, strOfNums_size]
      simp only [List.length_cons, List.length_nil]
      omega
    have w1 : IntKind.i64.wrap ((n : Int) / 10) = (n : Int) / 10 := IntWalk.i64_in _ (by omega)
    have w2 : (n : Int).tmod 10 = (n : Int) % 10 := Int.tmod_eq_emod_of_nonneg (by omega)
    have w3 : IntKind.i64.wrap (48 + (n : Int) % 10) = 48 + (n : Int) % 10 := IntWalk.i64_in _ (by omega)
    have w4 : IntKind.u8.wrap (48 + (n : Int) % 10) = 48 + (n : Int) % 10 := by rw [IntKind.wrap_u8]; omega
    go_enter Tryd.func54, Tryd.ntmps54
    go_wp2
    refine wp_region_held_drew (S := Keeps (fun _ => False) w) (by kernel_rfl) ((Keeps.refl (fun _ => False) _).drew) (fun hHeld => ?_)
    refine wpAnyH_take (i := 0) (oi := ⟨some 10, _, _, _, _, _⟩) (v := ?_) rfl (by kernel_rfl) (by kernel_rfl) (by kernel_rfl) (fun _ _ _ h => h) (Or.inl ⟨by rfl, ?_⟩) hHeld ?_
    rotate_left
    · intro w' hSw
      go_simp
      first | done | rfl
    try simp only [Act.put, List.setIfInBounds_toArray, List.set_cons_zero, List.set_cons_succ]
    refine wpAnyH_take (i := 1) (oi := ⟨some 11, _, _, _, _, _⟩) (v := ?_) rfl (by kernel_rfl) (by kernel_rfl) (by kernel_rfl) (fun _ _ _ h => h) (Or.inl ⟨by rfl, ?_⟩) hHeld ?_
    rotate_left
    · intro w' hSw
      go_simp
      first | done | rfl
    try simp only [Act.put, List.setIfInBounds_toArray, List.set_cons_zero, List.set_cons_succ]
    refine wpAnyH_take (i := 3) (oi := ⟨some 13, _, _, _, _, _⟩) (v := ?_) rfl (by kernel_rfl) (by kernel_rfl) (by kernel_rfl) (fun _ _ _ h => h) (Or.inl ⟨by rfl, ?_⟩) hHeld ?_
    rotate_left
    · intro w' hSw
      go_simp
      first | done | rfl
    try simp only [Act.put, List.setIfInBounds_toArray, List.set_cons_zero, List.set_cons_succ]
    refine wpAnyH_take (i := 4) (oi := ⟨some 14, _, _, _, _, _⟩) (v := ?_) rfl (by kernel_rfl) (by kernel_rfl) (by kernel_rfl) (fun _ _ _ h => h) (Or.inl ⟨by rfl, ?_⟩) hHeld ?_
    rotate_left
    · intro w' hSw
      go_simp
      first | done | rfl
    try simp only [Act.put, List.setIfInBounds_toArray, List.set_cons_zero, List.set_cons_succ]
    refine wpAnyH_take (i := 5) (oi := ⟨some 15, _, _, _, _, _⟩) (v := ?_) rfl (by kernel_rfl) (by kernel_rfl) (by kernel_rfl) (fun _ _ _ h => h) (Or.inl ⟨by rfl, ?_⟩) hHeld ?_
    rotate_left
    · intro w' hSw
      go_simp
      first | done | rfl
    try simp only [Act.put, List.setIfInBounds_toArray, List.set_cons_zero, List.set_cons_succ]
    refine wpAnyH_take (i := 6) (oi := ⟨some 16, _, _, _, _, _⟩) (v := ?_) rfl (by kernel_rfl) (by kernel_rfl) (by kernel_rfl) (fun _ _ _ h => h) (Or.inl ⟨by rfl, ?_⟩) hHeld ?_
    rotate_left
    · intro w' hSw
      go_simp
      first | done | rfl
    try simp only [Act.put, List.setIfInBounds_toArray, List.set_cons_zero, List.set_cons_succ]
    refine wpAnyH_ready (rs := [2, 7]) (by kernel_rfl) (by simp) ?_
    refine (AllReadyH.cons (o := ⟨some 12, _, _, _, _, _⟩) rfl (fun K hK => ?_) (AllReadyH.cons (o := ⟨some 17, _, _, _, _, _⟩) rfl (fun K hK => ?_) AllReadyH.nil))
    · go_simp
      refine (HIH.out _ hHeld).mono ?_
      rintro e wA ⟨rfl, hkA⟩
      have hqA := hHeld.trans hkA (fun _ _ h => h)
      refine hK.out _ _ hqA (fun hHeld => ?_)
      clear hK K
      try simp only [Act.put, List.setIfInBounds_toArray, List.set_cons_zero, List.set_cons_succ]
      refine wpAnyH_ready (rs := [7]) (by kernel_rfl) (by simp) ?_
      refine (AllReadyH.cons (o := ⟨some 17, _, _, _, _, _⟩) rfl (fun K hK => ?_) AllReadyH.nil)
      go_simp
      have HB : Hid (Rd (wA.alloc (.cells #[.int .u8 (48 + (n : Int) % 10)] 5)) (some ⟨wA.heap.size, 0, none⟩) 1 [Value.int .u8 (48 + (n : Int) % 10)]) := Lib.hid (Rd.of_blk (Blk.new wA 5 [Value.int .u8 (48 + (n : Int) % 10)]) rfl)
      refine hK.out _ _ (hHeld.alloc _) (fun hHeld => ?_)
      clear hK K
      try simp only [Act.put, List.setIfInBounds_toArray, List.set_cons_zero, List.set_cons_succ]
      refine wpAnyH_ready (rs := [8]) (by kernel_rfl) (by simp) ?_
      refine (AllReadyH.cons (o := ⟨some 18, _, _, _, _, _⟩) rfl (fun K hK => ?_) AllReadyH.nil)
      have cv := HCV.out _ _ _ HB.out
      go_simp
      clear cv HB
      refine hK.out _ _ hHeld (fun hHeld => ?_)
      clear hK K
      try simp only [Act.put, List.setIfInBounds_toArray, List.set_cons_zero, List.set_cons_succ]
      refine wpAnyH_take (i := 9) (oi := ⟨some 19, _, _, _, _, _⟩) (v := ?_) rfl (by kernel_rfl) (by kernel_rfl) (by kernel_rfl) (fun _ _ _ h => h) (Or.inl ⟨by rfl, ?_⟩) hHeld ?_
      rotate_left
      · intro w' hSw
        go_simp
        first | done | rfl
      try simp only [Act.put, List.setIfInBounds_toArray, List.set_cons_zero, List.set_cons_succ]
      refine wpAnyH_take (i := 10) (oi := ⟨some 2, _, _, _, _, _⟩) (v := ?_) rfl (by kernel_rfl) (by kernel_rfl) (by kernel_rfl) (fun _ _ _ h => h) (Or.inl ⟨by rfl, ?_⟩) hHeld ?_
      rotate_left
      · intro w' hSw
        go_simp
        first | done | rfl
      try simp only [Act.put, List.setIfInBounds_toArray, List.set_cons_zero, List.set_cons_succ]
      refine wpAnyH_done (by kernel_rfl) ?_ _
      have HK := Lib.hid hHeld
      go_wp2
      go_ret
      exact ⟨by rw [HDD.out]; rfl, HK.out⟩
    · go_simp
      have HB : Hid (Rd (w.alloc (.cells #[.int .u8 (48 + (n : Int) % 10)] 5)).drew (some ⟨w.heap.size, 0, none⟩) 1 [Value.int .u8 (48 + (n : Int) % 10)]) := Lib.hid ((Rd.of_blk (Blk.new w 5 [Value.int .u8 (48 + (n : Int) % 10)]) rfl).keep ((Keeps.refl (fun _ => False) _).drew) (no_out _ _))
      have hHeld := hHeld.alloc (.cells #[.int .u8 (48 + (n : Int) % 10)] 5)
      refine hK.out _ _ (((Keeps.refl (fun _ => False) w).alloc _).drew) (fun hHeld => ?_)
      clear hK K
      try simp only [Act.put, List.setIfInBounds_toArray, List.set_cons_zero, List.set_cons_succ]
      refine wpAnyH_ready (rs := [2, 8]) (by kernel_rfl) (by simp) ?_
      refine (AllReadyH.cons (o := ⟨some 12, _, _, _, _, _⟩) rfl (fun K hK => ?_) (AllReadyH.cons (o := ⟨some 18, _, _, _, _, _⟩) rfl (fun K hK => ?_) AllReadyH.nil))
      · go_simp
        refine (HIH.out _ hHeld).mono ?_
        rintro e wA ⟨rfl, hkA⟩
        have hqA := hHeld.trans hkA (fun _ _ h => h)
        have HB := Lib.hid (HB.out.keep hkA (no_out _ _))
        refine hK.out _ _ hqA (fun hHeld => ?_)
        clear hK K
        try simp only [Act.put, List.setIfInBounds_toArray, List.set_cons_zero, List.set_cons_succ]
        refine wpAnyH_ready (rs := [8]) (by kernel_rfl) (by simp) ?_
        refine (AllReadyH.cons (o := ⟨some 18, _, _, _, _, _⟩) rfl (fun K hK => ?_) AllReadyH.nil)
        have cv := HCV.out _ _ _ HB.out
        go_simp
        clear cv HB
        refine hK.out _ _ hHeld (fun hHeld => ?_)
        clear hK K
        try simp only [Act.put, List.setIfInBounds_toArray, List.set_cons_zero, List.set_cons_succ]
        refine wpAnyH_take (i := 9) (oi := ⟨some 19, _, _, _, _, _⟩) (v := ?_) rfl (by kernel_rfl) (by kernel_rfl) (by kernel_rfl) (fun _ _ _ h => h) (Or.inl ⟨by rfl, ?_⟩) hHeld ?_
        rotate_left
        · intro w' hSw
          go_simp
          first | done | rfl
        try simp only [Act.put, List.setIfInBounds_toArray, List.set_cons_zero, List.set_cons_succ]
        refine wpAnyH_take (i := 10) (oi := ⟨some 2, _, _, _, _, _⟩) (v := ?_) rfl (by kernel_rfl) (by kernel_rfl) (by kernel_rfl) (fun _ _ _ h => h) (Or.inl ⟨by rfl, ?_⟩) hHeld ?_
        rotate_left
        · intro w' hSw
          go_simp
          first | done | rfl
        try simp only [Act.put, List.setIfInBounds_toArray, List.set_cons_zero, List.set_cons_succ]
        refine wpAnyH_done (by kernel_rfl) ?_ _
        have HK := Lib.hid hHeld
        go_wp2
        go_ret
        exact ⟨by rw [HDD.out]; rfl, HK.out⟩
      · have cv := HCV.out _ _ _ HB.out
        go_simp
        clear cv HB
        refine hK.out _ _ hHeld (fun hHeld => ?_)
        clear hK K
        try simp only [Act.put, List.setIfInBounds_toArray, List.set_cons_zero, List.set_cons_succ]
        refine wpAnyH_ready (rs := [2]) (by kernel_rfl) (by simp) ?_
        refine (AllReadyH.cons (o := ⟨some 12, _, _, _, _, _⟩) rfl (fun K hK => ?_) AllReadyH.nil)
        go_simp
        refine (HIH.out _ hHeld).mono ?_
        rintro e wA ⟨rfl, hkA⟩
        have hqA := hHeld.trans hkA (fun _ _ h => h)
        refine hK.out _ _ hqA (fun hHeld => ?_)
        clear hK K
        try simp only [Act.put, List.setIfInBounds_toArray, List.set_cons_zero, List.set_cons_succ]
        refine wpAnyH_take (i := 9) (oi := ⟨some 19, _, _, _, _, _⟩) (v := ?_) rfl (by kernel_rfl) (by kernel_rfl) (by kernel_rfl) (fun _ _ _ h => h) (Or.inl ⟨by rfl, ?_⟩) hHeld ?_
        rotate_left
        · intro w' hSw
          go_simp
          first | done | rfl
        try simp only [Act.put, List.setIfInBounds_toArray, List.set_cons_zero, List.set_cons_succ]
        refine wpAnyH_take (i := 10) (oi := ⟨some 2, _, _, _, _, _⟩) (v := ?_) rfl (by kernel_rfl) (by kernel_rfl) (by kernel_rfl) (fun _ _ _ h => h) (Or.inl ⟨by rfl, ?_⟩) hHeld ?_
        rotate_left
        · intro w' hSw
          go_simp
          first | done | rfl
        try simp only [Act.put, List.setIfInBounds_toArray, List.set_cons_zero, List.set_cons_succ]
        refine wpAnyH_done (by kernel_rfl) ?_ _
        have HK := Lib.hid hHeld
        go_wp2
        go_ret
        exact ⟨by rw [HDD.out]; rfl, HK.out⟩
/-- Part k of parts, and what comes of the row with it. -/
theorem row_at {w : World} {A : Option Addr} {n N : Nat} {pss : List (List Int)} (hr : RdPartsO (fun _ => False) w A pss) (hnn : pss.length = n) (hN : (rowF pss).length = N) (wr : World) (k m : Nat) (hk : Keeps (fun _ => False) w wr) (hlt : k < n) (hm : (rowF (pss.take k)).length = m) :
    ∃ (g o : Nat) (bs : List Int) (q l : Nat) (A' : Option Addr) (c' : Nat), A = some ⟨g, o, none⟩ ∧ wr.cell? ⟨g, o + k, none⟩ = some (.slice A' q c') ∧ Rd w A' q (vb bs) ∧ q ≤ 140737488351232 ∧ (lenF q).length = l ∧ m + l + 1 + q + 1 ≤ N ∧ (rowF (pss.take (k + 1))).length = m + l + 1 + q + 1 ∧
      ((vb (rowF (pss.take k)) ++ vb (lenF q)) ++ [Value.int .u8 32]) ++ vb bs ++ [Value.int .u8 32] = vb (rowF (pss.take (k + 1))) := by
  obtain ⟨g, o, bs, A', c', e1, e2, e3, e4, _, _, e7⟩ := hr.at (k := k) (Keeps.refl (fun _ => False) w) (fun _ h => h) (by omega)
  have e3 := (hk.cell (p := ⟨g, o + k, none⟩) (World.block_lt_of_cell? w _ e3) (fun h => h)).trans e3
  have ht := rowF_take pss k bs e2
  have hl : (rowF (pss.take (k + 1))).length = m + (lenF bs.length).length + 1 + bs.length + 1 := by rw [ht]; simp; omega
  have := rowF_mono pss (k + 1)
  exact ⟨g, o, bs, bs.length, (lenF bs.length).length, A', c', e1, e3, e4, e7, rfl, by omega, hl, by rw [ht]; simp [vb]⟩

set_option maxHeartbeats 2000000 in
set_option maxRecDepth 100000 in
theorem rrow_any (w : World) (A : Option Addr) (n c : Nat) (pss : List (List Int)) (N : Nat) (hnn : pss.length = n) (hr : RdPartsO (fun _ => False) w A pss) (hn : n ≤ 1048576) (hN : (rowF pss).length = N) (hbig : N ≤ 16777216) :
    Calls Tryd.prog 41 #[.slice A n c] w fun e w' => ∃ A' c', e = .returned (.slice A' N c') ∧ Mine w w' 5 A' N c' (vb (rowF pss)) := by
  have HAT := Lib.hid (row_at hr hnn hN)
  have HTK : Hid (pss.take n = pss) := Lib.hid (by rw [← hnn, List.take_length])
  have HNN := Lib.hid hN
  clear hr hnn hN
  go_enter Tryd.func41, Tryd.ntmps41
  go_wp2
  go_loopw [3, 5, 8] (fun v _ i wr => ∃ (k m : Nat) (A' : Option Addr) (c' : Nat), k ≤ n ∧ i = .int .i64 k ∧ v = .slice A' m c' ∧ Hid ((rowF (pss.take k)).length = m) ∧ Hid (Mine w wr 5 A' m c' (vb (rowF (pss.take k))))) (fun _ _ i _ => n - (intOf i).toNat)
  case atStart => exact ⟨0, 0, none, 0, by omega, rfl, rfl, Lib.hid rfl, Lib.hid ⟨World.ownsRow_nil _ _ _ _, Keeps.refl _ _, fun g h => by cases h⟩⟩
  case round =>
    obtain ⟨k, m, A2, c2, hk, rfl, rfl, HM, HO⟩ := hrel
    by_cases hlt : k < n
    · obtain ⟨g, o, bs, q, l, A1, c1, hA, hcell, hr1, hq, hl, hle, hlen, hcat⟩ := HAT.out wr k m HO.out.2.1 hlt HM.out
      subst hA
      have HE := Lib.hid hcat
      have HL := Lib.hid hlen
      have HR1 := Lib.hid hr1
      have HLQ := Lib.hid hl
      have HLB := Lib.hid (lenF_bytes q)
      have HLN := Lib.hid (length_any q (by omega) wr)
      obtain ⟨L, hL⟩ : ∃ L, L = lenF q := ⟨_, rfl⟩
      rw [← hL] at HLN HLB HLQ HE
      clear hcat hlen hr1 hl hL
      go_wp2_with (first
        | (go_at_call 54; refine HLN.out.mono ?_; rintro e w1 ⟨rfl, hk1⟩; have HO1 := Lib.hid (HO.out.keep hk1); clear hk1; obtain ⟨A3, c3, w3, hrun3, hm3⟩ := append_str HO1.out L l HLQ.out HLB.out (by omega) 22; have HM3 := Lib.hid hm3; have HRUN := Lib.hid hrun3; have HO4 := Lib.hid (hm3.1.alloc (.cells #[.int .u8 32] 5)); have HD4 := Lib.hid (Rd.of_blk (Blk.new w3 5 [.int .u8 32]) (n := 1) rfl); clear hm3 hrun3)
        | (at_builtin; refine wpList_run_append rfl (.tmp 12) (.tmp 15) 22 9 rfl _ _ _ rfl rfl HRUN.out ?_)
        | (at_builtin; refine wpList_append_rd _ rfl (.tmp 17) (.tmp 18) 22 rfl 5 (.int .u8 0) 1 Tryd.underlying22 info5 rfl (.slice A3 (m + l) c3) (m + l) _ rfl HO4.out _ 1 1 _ rfl HD4.out (vb_one [32]) (by unfold maxLen; omega) (by omega) ?_; intro A5 c5 w5 hown5 hg5 hb5; have HM5 := Lib.hid (HM3.out.app hown5 hg5 (by simpa only [World.size_alloc] using hb5)); have HR5 := Lib.hid (HR1.out.keep HM5.out.2.1 (no_out _ _)); clear hown5 hg5 hb5)
        | (at_builtin; refine wpList_append_rd _ rfl (.tmp 20) (.tmp 21) 22 rfl 5 (.int .u8 0) 1 Tryd.underlying22 info5 rfl (.slice A5 (m + l + 1) c5) (m + l + 1) _ rfl HM5.out.1 A1 q c1 _ rfl HR5.out (vb_one _) (by unfold maxLen; omega) (by omega) ?_; intro A6 c6 w6 hown6 hg6 hb6; have HM6 := Lib.hid (HM5.out.app0 hown6 hg6 hb6); have HO6 := Lib.hid (HM6.out.1.alloc (.cells #[.int .u8 32] 5)); have HD6 := Lib.hid (Rd.of_blk (Blk.new w6 5 [.int .u8 32]) (n := 1) rfl); clear hown6 hg6 hb6)
        | (at_builtin; refine wpList_append_rd _ rfl (.tmp 23) (.tmp 24) 22 rfl 5 (.int .u8 0) 1 Tryd.underlying22 info5 rfl (.slice A6 (m + l + 1 + q) c6) (m + l + 1 + q) _ rfl HO6.out _ 1 1 _ rfl HD6.out (vb_one [32]) (by unfold maxLen; omega) (by omega) ?_; intro A7 c7 w7 hown7 hg7 hb7; rw [HE.out] at hown7; have HM7 := Lib.hid (HM6.out.app hown7 hg7 (by simpa only [World.size_alloc] using hb7)); clear hown7 hg7 hb7))
      go_roundw
      case rel => exact ⟨k + 1, m + l + 1 + q + 1, A7, c7, by omega, by go_num, rfl, HL, HM7⟩
      case measure => simp [intOf]; omega
    · obtain rfl : k = n := by omega
      rw [HTK.out] at HM HO
      rw [HNN.out] at HM
      obtain rfl := HM.out
      clear HM
      go_wp2
      go_ret
      exact ⟨_, _, rfl, HO.out⟩
/-- strconv.AppendInt onto a row of the call's own. -/
theorem appendInt_any {w W : World} {A : Option Addr} {m c : Nat} {xs : List Value} (h : Mine w W 5 A m c xs) (q l : Nat) (hq : q ≤ 140737488351232) (hl : (lenF q).length = l) (hm : m + 21 ≤ 140737488355328)
    (hT : Lib.TabBelow Tryd.prog w.heap.size w "internal/strconv.uint64pow10" .u64 Lib.pow10Tab) :
    Calls Tryd.prog 55 #[.slice A m c, .int .i64 q, .int .i64 10] W fun e w' => ∃ A' c', e = .returned (.slice A' (m + l) c') ∧ Mine w w' 5 A' (m + l) c' (xs ++ vb (lenF q)) := by
  have hb : Below w.heap.size w W := h.2.1.to_below (fun _ _ h => h)
  refine (Tryd.strconv_AppendInt_10 w.heap.size m q (by omega) (by omega) (.slice A m c) xs W h.base h.2.1.size hm (hT.on hb)).mono fun e w' ⟨v', he, ho, hbl, _⟩ => ?_
  have e1 : (Lib.itoa (q : Int)) = Lib.decDigits q := Lib.itoa_nonneg q
  have e2 : (Lib.decDigits q).length = l := by rw [← hl]; simp [lenF]
  rw [e1, e2, byteCells_lenF] at ho
  obtain ⟨A', c', rfl⟩ := own_shape ho
  exact ⟨A', c', he, Mine.of_base ho (h.2.1.trans (Keeps.below hbl) (fun i hi hB => by omega))⟩

set_option maxHeartbeats 2000000 in
set_option maxRecDepth 100000 in
theorem hrow_any (w : World) (hT : Lib.TabBelow Tryd.prog w.heap.size w "internal/strconv.uint64pow10" .u64 Lib.pow10Tab) (A : Option Addr) (n c : Nat) (pss : List (List Int)) (N : Nat) (hnn : pss.length = n) (hr : RdPartsO (fun _ => False) w A pss) (hn : n ≤ 1048576) (hN : (rowF pss).length = N) (hbig : N ≤ 16777216) :
    Calls Tryd.prog 42 #[.slice A n c] w fun e w' => ∃ A' c', e = .returned (.slice A' N c') ∧ Mine w w' 5 A' N c' (vb (rowF pss)) := by
  have HAT := Lib.hid (row_at hr hnn hN)
  have HTK : Hid (pss.take n = pss) := Lib.hid (by rw [← hnn, List.take_length])
  have HNN := Lib.hid hN
  have HAI : Hid (∀ {W : World} {A : Option Addr} {m c : Nat} {xs : List Value}, Mine w W 5 A m c xs → ∀ (q l : Nat), q ≤ 140737488351232 → (lenF q).length = l → m + 21 ≤ 140737488355328 →
    Calls Tryd.prog 55 #[.slice A m c, .int .i64 q, .int .i64 10] W fun e w' => ∃ A' c', e = .returned (.slice A' (m + l) c') ∧ Mine w w' 5 A' (m + l) c' (xs ++ vb (lenF q))) := Lib.hid fun h q l h1 h2 h3 => appendInt_any h q l h1 h2 h3 hT
  clear hr hnn hN hT
  go_enter Tryd.func42, Tryd.ntmps42
  go_wp2
  go_loopw [3, 5, 8] (fun v _ i wr => ∃ (k m : Nat) (A' : Option Addr) (c' : Nat), k ≤ n ∧ i = .int .i64 k ∧ v = .slice A' m c' ∧ Hid ((rowF (pss.take k)).length = m) ∧ Hid (Mine w wr 5 A' m c' (vb (rowF (pss.take k))))) (fun _ _ i _ => n - (intOf i).toNat)
  case atStart => exact ⟨0, 0, none, 0, by omega, rfl, rfl, Lib.hid rfl, Lib.hid ⟨World.ownsRow_nil _ _ _ _, Keeps.refl _ _, fun g h => by cases h⟩⟩
  case round =>
    obtain ⟨k, m, A2, c2, hk, rfl, rfl, HM, HO⟩ := hrel
    by_cases hlt : k < n
    · obtain ⟨g, o, bs, q, l, A1, c1, hA, hcell, hr1, hq, hl, hle, hlen, hcat⟩ := HAT.out wr k m HO.out.2.1 hlt HM.out
      subst hA
      have HE := Lib.hid hcat
      have HL := Lib.hid hlen
      have HR1 := Lib.hid hr1
      have HLN := Lib.hid (HAI.out HO.out q l (by omega) hl (by omega))
      obtain ⟨L, hL⟩ : ∃ L, L = lenF q := ⟨_, rfl⟩
      rw [← hL] at HLN HE
      clear hcat hlen hr1 hl hL
      go_wp2_with (first
        | (go_at_call 55; refine HLN.out.mono ?_; rintro e w3 ⟨A3, c3, rfl, hm3⟩; have HM3 := Lib.hid hm3; have HO4 := Lib.hid (hm3.1.alloc (.cells #[.int .u8 32] 5)); have HD4 := Lib.hid (Rd.of_blk (Blk.new w3 5 [.int .u8 32]) (n := 1) rfl); clear hm3)
        | (at_builtin; refine wpList_append_rd _ rfl (.tmp 16) (.tmp 17) 22 rfl 5 (.int .u8 0) 1 Tryd.underlying22 info5 rfl (.slice A3 (m + l) c3) (m + l) _ rfl HO4.out _ 1 1 _ rfl HD4.out (vb_one [32]) (by unfold maxLen; omega) (by omega) ?_; intro A5 c5 w5 hown5 hg5 hb5; have HM5 := Lib.hid (HM3.out.app hown5 hg5 (by simpa only [World.size_alloc] using hb5)); have HR5 := Lib.hid (HR1.out.keep HM5.out.2.1 (no_out _ _)); clear hown5 hg5 hb5)
        | (at_builtin; refine wpList_append_rd _ rfl (.tmp 19) (.tmp 20) 22 rfl 5 (.int .u8 0) 1 Tryd.underlying22 info5 rfl (.slice A5 (m + l + 1) c5) (m + l + 1) _ rfl HM5.out.1 A1 q c1 _ rfl HR5.out (vb_one _) (by unfold maxLen; omega) (by omega) ?_; intro A6 c6 w6 hown6 hg6 hb6; have HM6 := Lib.hid (HM5.out.app0 hown6 hg6 hb6); have HO6 := Lib.hid (HM6.out.1.alloc (.cells #[.int .u8 32] 5)); have HD6 := Lib.hid (Rd.of_blk (Blk.new w6 5 [.int .u8 32]) (n := 1) rfl); clear hown6 hg6 hb6)
        | (at_builtin; refine wpList_append_rd _ rfl (.tmp 22) (.tmp 23) 22 rfl 5 (.int .u8 0) 1 Tryd.underlying22 info5 rfl (.slice A6 (m + l + 1 + q) c6) (m + l + 1 + q) _ rfl HO6.out _ 1 1 _ rfl HD6.out (vb_one [32]) (by unfold maxLen; omega) (by omega) ?_; intro A7 c7 w7 hown7 hg7 hb7; rw [HE.out] at hown7; have HM7 := Lib.hid (HM6.out.app hown7 hg7 (by simpa only [World.size_alloc] using hb7)); clear hown7 hg7 hb7))
      go_roundw
      case rel => exact ⟨k + 1, m + l + 1 + q + 1, A7, c7, by omega, by go_num, rfl, HL, HM7⟩
      case measure => simp [intOf]; omega
    · obtain rfl : k = n := by omega
      rw [HTK.out] at HM HO
      rw [HNN.out] at HM
      obtain rfl := HM.out
      clear HM
      go_wp2
      go_ret
      exact ⟨_, _, rfl, HO.out⟩
end Go.Proofs.YtnlnbgjpbnjjfaaDoor
