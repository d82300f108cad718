/-
  WALKS: hmac.Parts.
-/
import Derived.Test.YtnlnbgjpbnjjfaaDoorMemK
import Derived.Test.YtnlnbgjpbnjjfaaDoorShaBW
set_option linter.unusedSimpArgs false
namespace Go.Mac
open Go Go.Aff
/-- The digits from place i on; fr: the first of them; n: the number so far. Wrong at a place, or the place behind them and the number. -/
def scan (row : List Int) (fr : Nat) : Nat → Nat → Nat → Except Nat (Nat × Nat)
  | 0, i, n => .ok (i, n)
  | f + 1, i, n =>
    match row[i]? with
    | none => .ok (i, n)
    | some b => if 48 ≤ b ∧ b ≤ 57 then (if 2147483648 ≤ 10 * n + (b - 48).toNat ∨ (fr < i ∧ row.getD fr 0 = 48) then .error i else scan row fr f (i + 1) (10 * n + (b - 48).toNat)) else .ok (i, n)
/-- The parts from place i on; acc: those ahead. Wrong at a place, or all parts. -/
def parse (row : List Int) : Nat → Nat → List (List Int) → Except Nat (List (List Int))
  | 0, _, acc => .ok acc
  | f + 1, i, acc =>
    if row.length ≤ i then .ok acc
    else match scan row i (row.length - i) i 0 with
      | .error at' => .error at'
      | .ok (j, n) =>
        if j = row.length ∨ j = i ∨ row.getD j 0 ≠ 32 then .error j
        else if row.length - j - 1 ≤ n then .error row.length
        else if row.getD (j + 1 + n) 0 ≠ 32 then .error (j + 1 + n)
        else parse row f (j + 1 + n + 1) (acc ++ [(row.drop (j + 1)).take n])
def partsF (row : List Int) : Except Nat (List (List Int)) := parse row (row.length + 1) 0 []

section
variable {row : List Int}
theorem scan_end {fr f i n : Nat} (h : row[i]? = none) : scan row fr f i n = .ok (i, n) := by
  cases f with
  | zero => rfl
  | succ f => unfold scan; rw [h]
theorem scan_other {fr f i n : Nat} {b : Int} (h : row[i]? = some b) (hb : ¬ (48 ≤ b ∧ b ≤ 57)) : scan row fr f i n = .ok (i, n) := by
  cases f with
  | zero => rfl
  | succ f => unfold scan; rw [h]; simp only [hb, if_false]
theorem scan_wrong {fr f i n : Nat} {b : Int} (h : row[i]? = some b) (hb : 48 ≤ b ∧ b ≤ 57) (hw : 2147483648 ≤ 10 * n + (b - 48).toNat ∨ (fr < i ∧ row.getD fr 0 = 48)) : scan row fr (f + 1) i n = .error i := by
  unfold scan; rw [h]; simp only [hb, and_self, if_true]; rw [if_pos hw]
theorem scan_step {fr f i n : Nat} {b : Int} (h : row[i]? = some b) (hb : 48 ≤ b ∧ b ≤ 57) (hw : ¬ (2147483648 ≤ 10 * n + (b - 48).toNat ∨ (fr < i ∧ row.getD fr 0 = 48))) : scan row fr (f + 1) i n = scan row fr f (i + 1) (10 * n + (b - 48).toNat) := by
  conv => lhs; unfold scan
  rw [h]; simp only [hb, and_self, if_true]; rw [if_neg hw]
/-- Where the digits end: within the row, at or behind their start; the number is small. -/
theorem scan_le {fr : Nat} : ∀ {f i n j m : Nat}, scan row fr f i n = .ok (j, m) → i ≤ row.length → n < 2147483648 → i ≤ j ∧ j ≤ row.length ∧ m < 2147483648 := by
  intro f
  induction f with
  | zero => intro i n j m h hi hn; unfold scan at h; injection h with h; injection h with h1 h2; omega
  | succ f ih =>
    intro i n j m h hi hn
    unfold scan at h
    cases hr : row[i]? with
    | none => rw [hr] at h; injection h with h; injection h with h1 h2; omega
    | some b =>
      rw [hr] at h
      have hlt := (List.getElem?_eq_some_iff.1 hr).1
      by_cases hb : 48 ≤ b ∧ b ≤ 57
      · simp only [hb, and_self, if_true] at h
        by_cases hw : 2147483648 ≤ 10 * n + (b - 48).toNat ∨ (fr < i ∧ row.getD fr 0 = 48)
        · rw [if_pos hw] at h; cases h
        · rw [if_neg hw] at h
          have := ih h (by omega) (by omega)
          omega
      · simp only [hb, if_false] at h
        injection h with h; injection h with h1 h2; omega
theorem scan_wrong_le {fr : Nat} : ∀ {f i n j : Nat}, scan row fr f i n = .error j → i ≤ j ∧ j < row.length := by
  intro f
  induction f with
  | zero => intro i n j h; unfold scan at h; cases h
  | succ f ih =>
    intro i n j h
    unfold scan at h
    cases hr : row[i]? with
    | none => rw [hr] at h; cases h
    | some b =>
      rw [hr] at h
      have hlt := (List.getElem?_eq_some_iff.1 hr).1
      by_cases hb : 48 ≤ b ∧ b ≤ 57
      · simp only [hb, and_self, if_true] at h
        by_cases hw : 2147483648 ≤ 10 * n + (b - 48).toNat ∨ (fr < i ∧ row.getD fr 0 = 48)
        · rw [if_pos hw] at h; injection h with h; omega
        · rw [if_neg hw] at h
          have := ih h
          omega
      · simp only [hb, if_false] at h; cases h
/-- More fuel than places changes nothing. -/
theorem parse_end {f i : Nat} {acc : List (List Int)} (h : row.length ≤ i) : parse row f i acc = .ok acc := by
  cases f with
  | zero => rfl
  | succ f => unfold parse; rw [if_pos h]
theorem parse_scan {f i at' : Nat} {acc : List (List Int)} (h : i < row.length) (hs : scan row i (row.length - i) i 0 = .error at') : parse row (f + 1) i acc = .error at' := by
  unfold parse; rw [if_neg (by omega), hs]
theorem parse_mark {f i j n : Nat} {acc : List (List Int)} (h : i < row.length) (hs : scan row i (row.length - i) i 0 = .ok (j, n)) (hj : j = row.length ∨ j = i ∨ row.getD j 0 ≠ 32) : parse row (f + 1) i acc = .error j := by
  unfold parse; rw [if_neg (by omega), hs]; dsimp only; rw [if_pos hj]
theorem parse_short {f i j n : Nat} {acc : List (List Int)} (h : i < row.length) (hs : scan row i (row.length - i) i 0 = .ok (j, n)) (hj : ¬ (j = row.length ∨ j = i ∨ row.getD j 0 ≠ 32)) (hn : row.length - j - 1 ≤ n) : parse row (f + 1) i acc = .error row.length := by
  unfold parse; rw [if_neg (by omega), hs]; dsimp only; rw [if_neg hj, if_pos hn]
theorem parse_last {f i j n : Nat} {acc : List (List Int)} (h : i < row.length) (hs : scan row i (row.length - i) i 0 = .ok (j, n)) (hj : ¬ (j = row.length ∨ j = i ∨ row.getD j 0 ≠ 32)) (hn : ¬ row.length - j - 1 ≤ n) (hm : row.getD (j + 1 + n) 0 ≠ 32) : parse row (f + 1) i acc = .error (j + 1 + n) := by
  unfold parse; rw [if_neg (by omega), hs]; dsimp only; rw [if_neg hj, if_neg hn, if_pos hm]
theorem parse_step {f i j n : Nat} {acc : List (List Int)} (h : i < row.length) (hs : scan row i (row.length - i) i 0 = .ok (j, n)) (hj : ¬ (j = row.length ∨ j = i ∨ row.getD j 0 ≠ 32)) (hn : ¬ row.length - j - 1 ≤ n) (hm : ¬ row.getD (j + 1 + n) 0 ≠ 32) :
    parse row (f + 1) i acc = parse row f (j + 1 + n + 1) (acc ++ [(row.drop (j + 1)).take n]) := by
  conv => lhs; unfold parse
  rw [if_neg (by omega), hs]; dsimp only; rw [if_neg hj, if_neg hn, if_neg hm]
end
theorem parts_wakes : partsF [50, 32, 97, 98, 32, 48, 32, 32] = .ok [[97, 98], []] := by rfl
end Go.Mac

namespace Go.Proofs.YtnlnbgjpbnjjfaaDoor
open Go Go.RowKit Go.Sha Go.Aff Go.Mac

theorem infoSl : (Tryd.prog.info? 22).map (fun i => (i.zero, i.size, i.bytes)) = some (some (.slice none 0 0), 1, 24) := by kernel_rfl
/-- Parts in new memory: a row of slices, each of its own. -/
structure PartsV (w wr : World) (A : Option Addr) (k c : Nat) (vals : List Value) (pss : List (List Int)) : Prop where
  row : Mine w wr 22 A k c vals
  len : pss.length = k
  each : ∀ (i : Nat) (bs : List Int), pss[i]? = some bs → ∃ A' c', vals[i]? = some (Value.slice A' bs.length c') ∧ Mine w wr 5 A' bs.length c' (vb bs)
  apart : ∀ (i j : Nat) (vi vj : Value), i < j → vals[i]? = some vi → vals[j]? = some vj → ∀ g, vi.ownBlock = some g → vj.ownBlock ≠ some g
theorem PartsV.vlen {w wr : World} {A : Option Addr} {k c : Nat} {vals : List Value} {pss : List (List Int)} (h : PartsV w wr A k c vals pss) : vals.length = k := by simpa using h.row.1.1
theorem PartsV.keep {w wr w' : World} {A : Option Addr} {k c : Nat} {vals : List Value} {pss : List (List Int)} (h : PartsV w wr A k c vals pss) (hk : Keeps (fun _ => False) wr w') : PartsV w w' A k c vals pss :=
  ⟨h.row.keep hk, h.len, fun i bs hi => by obtain ⟨A', c', a, b⟩ := h.each i bs hi; exact ⟨A', c', a, b.keep hk⟩, h.apart⟩
theorem PartsV.none (w : World) : PartsV w w none 0 0 [] [] := ⟨⟨World.ownsRow_nil _ _ _ _, Keeps.refl _ _, fun g h => by cases h⟩, rfl, fun i bs h => by simp at h, fun i j vi vj _ h => by simp at h⟩

theorem PartsV.step {w wr w1 w3 : World} {A A1 A3 : Option Addr} {k c m c1 c3 : Nat} {vals : List Value} {pss : List (List Int)} {bs : List Int} {o : Obj} (h : PartsV w wr A k c vals pss) (hm : bs.length = m) (hk1 : Keeps (fun _ => False) wr w1)
    (ho1 : w1.ownsRow 0 5 1 (.slice A1 m c1) m (vb bs)) (hf1 : ∀ g, (Value.slice A1 m c1).ownBlock = some g → wr.heap.size ≤ g) (hown : w3.ownsRow 0 22 1 (.slice A3 (k + 1) c3) (k + 1) (vals ++ [Value.slice A1 m c1]))
    (hg : (w1.alloc o).grownBy w3 (Value.slice A k c).ownBlock) (hb : (Value.slice A3 (k + 1) c3).ownBlock = (Value.slice A k c).ownBlock ∨ (Value.slice A3 (k + 1) c3).ownBlock = some (w1.heap.size + 1)) : PartsV w w3 A3 (k + 1) c3 (vals ++ [Value.slice A1 m c1]) (pss ++ [bs]) := by
  subst hm
  have hr1 := h.row.keep hk1
  have hrow := Mine.app hr1 hown hg hb
  have hkg : Keeps (fun i => (Value.slice A k c).ownBlock = some i) (w1.alloc o) w3 := Keeps.of_grown hg
  have hvl := h.vlen
  have hpl := h.len
  have hold : ∀ (A' : Option Addr) (c' : Nat) (b : List Int), Mine w wr 5 A' b.length c' (vb b) → Mine w w3 5 A' b.length c' (vb b) := fun A' c' b hmi => by
    have h1 := (hmi.keep hk1).1.alloc o
    exact ⟨hkg.own h1 (fun g hg' he => own_types (hr1.1.alloc o) h1 (by decide) he hg'), hrow.2.1, hmi.2.2⟩
  have hnew : Mine w w3 5 A1 bs.length c1 (vb bs) := by
    have h1 := ho1.alloc o
    exact ⟨hkg.own h1 (fun g hg' he => own_types (hr1.1.alloc o) h1 (by decide) he hg'), hrow.2.1, fun g hg' => Nat.le_trans h.row.2.1.size (hf1 g hg')⟩
  refine ⟨hrow, by simp [hpl], fun i b hi => ?_, fun i j vi vj hij hvi hvj g hgi => ?_⟩
  · by_cases hik : i < k
    · rw [List.getElem?_append_left (by omega)] at hi
      obtain ⟨A', c', a, b'⟩ := h.each i b hi
      exact ⟨A', c', by rw [List.getElem?_append_left (by omega)]; exact a, hold _ _ _ b'⟩
    · have hik' : i = k := by
        have := (List.getElem?_eq_some_iff.1 hi).1
        simp at this
        omega
      subst hik'
      rw [List.getElem?_append_right (by omega), hpl] at hi
      have e : bs = b := by simpa using hi
      subst e
      exact ⟨A1, c1, by rw [List.getElem?_append_right (by omega), hvl]; simp, hnew⟩
  · have hjl : j < k + 1 := by
      have := (List.getElem?_eq_some_iff.1 hvj).1
      simp [hvl] at this
      omega
    rw [List.getElem?_append_left (by omega)] at hvi
    by_cases hjk : j < k
    · rw [List.getElem?_append_left (by omega)] at hvj
      exact h.apart i j vi vj hij hvi hvj g hgi
    · have hjk' : j = k := by omega
      subst hjk'
      rw [List.getElem?_append_right (by omega), hvl] at hvj
      have e : Value.slice A1 bs.length c1 = vj := by simpa using hvj
      subst e
      intro he
      have h1 := hf1 g he
      have hib : ∃ b, pss[i]? = some b := ⟨_, List.getElem?_eq_getElem (by omega)⟩
      obtain ⟨b, hib⟩ := hib
      obtain ⟨A', c', a, b'⟩ := h.each i b hib
      rw [hvi] at a
      injection a with a
      subst a
      have := (b'.1.lt g hgi).2
      omega

/-- An api.Spot as an error. -/
abbrev spotE (n at' : Int) : Value := .iface 33 (.agg #[.int .i64 n, .int .i64 at'])
/-- What Parts leaves. -/
def PartsPost (w : World) (row : List Int) (e : Ending) (w' : World) : Prop :=
  (∀ pss, partsF row = .ok pss → ∃ A k c vals, e = .returned (.tuple #[.slice A k c, .nilIface]) ∧ PartsV w w' A k c vals pss) ∧
  (∀ j : Nat, partsF row = .error j → e = .returned (.tuple #[.slice none 0 0, spotE 70 j]) ∧ Keeps (fun _ => False) w w')

set_option maxRecDepth 100000 in
theorem wrong_any (w : World) (j : Int) : Calls Tryd.prog 43 #[.int .i64 j] w fun e w' => e = .returned (.tuple #[.slice none 0 0, spotE 70 j]) ∧ w' = w := by
  go_enter Tryd.func43, Tryd.ntmps43
  go_wp2
  go_ret2
  exact ⟨rfl, rfl⟩

set_option maxHeartbeats 8000000 in
set_option maxRecDepth 100000 in
theorem hparts_any (w : World) (A : Option Addr) (n c : Nat) (row : List Int) (hn : row.length = n) (hr : Rd w A n (vb row)) (hb : IsBytes row) (hc : n ≤ c) (hm : n ≤ 4398046511104) :
    Calls Tryd.prog 13 #[.slice A n c] w (PartsPost w row) := by
  have HCELL : Hid (∀ (W : World) (j : Nat), Keeps (fun _ => False) w W → j < n → ∃ g o, A = some ⟨g, o, none⟩ ∧ W.cell? ⟨g, o + j, none⟩ = some (.int .u8 (row.getD j 0)) ∧ row[j]? = some (row.getD j 0) ∧ 0 ≤ row.getD j 0 ∧ row.getD j 0 < 256) := Lib.hid fun W j hk hlt => by
    obtain ⟨g, o, e, h⟩ := (hr.keep hk (no_out _ _)).2 (by omega)
    have hj : j < row.length := by omega
    refine ⟨g, o, e, ?_, by simp [hj], ?_⟩
    · rw [h j hlt]; simp [vb, hj]
    · have := hb (row.getD j 0) (by simp [hj])
      exact this
  have HOK : Hid (∀ pss A' k c' vals W, partsF row = .ok pss → PartsV w W A' k c' vals pss → PartsPost w row (.returned (.tuple #[.slice A' k c', .nilIface])) W) := Lib.hid fun pss A' k c' vals W h hp =>
    ⟨(fun pss' h' => by rw [h] at h'; injection h' with h'; subst h'; exact ⟨A', k, c', vals, rfl, hp⟩), (fun j h' => by rw [h] at h'; cases h')⟩
  have HER : Hid (∀ (j : Nat) W, partsF row = .error j → Keeps (fun _ => False) w W → PartsPost w row (.returned (.tuple #[.slice none 0 0, spotE 70 j])) W) := Lib.hid fun j W h hk =>
    ⟨(fun pss' h' => by rw [h] at h'; cases h'), (fun j' h' => by rw [h] at h'; injection h' with h'; subst h'; exact ⟨rfl, hk⟩)⟩
  have R0 : Hid (∃ f, n < 0 + f ∧ parse row f 0 [] = partsF row) := Lib.hid ⟨row.length + 1, by omega, rfl⟩
  have HN := Lib.hid hn
  obtain ⟨PO, hPO⟩ : ∃ PO, PO = PartsPost w row := ⟨_, rfl⟩
  rw [← hPO] at HOK HER ⊢
  have HR := Lib.hid hr
  clear hn hPO hr hb
  go_enter Tryd.func13, Tryd.ntmps13
  go_wp2
  go_loopw [4, 6] (fun v i wr => ∃ (k : Nat) (A2 : Option Addr) (m c2 : Nat) (vals : List Value) (pss : List (List Int)) (f : Nat), k ≤ n ∧ m ≤ k ∧ i = .int .i64 k ∧ v = .slice A2 m c2 ∧ PartsV w wr A2 m c2 vals pss ∧ n < k + f ∧ parse row f k pss = partsF row) (fun _ i _ => n - (intOf i).toNat)
  case atStart =>
    obtain ⟨f, hf1, hf2⟩ := R0.out
    exact ⟨0, none, 0, 0, [], [], f, by omega, by omega, rfl, rfl, PartsV.none w, hf1, hf2⟩
  case round =>
    clear R0
    obtain ⟨k, A2, m, c2, vals, pss, f, hk, hmk, rfl, rfl, hp, hf, hps⟩ := hrel
    by_cases hlt : k < n
    · obtain ⟨f, rfl⟩ : ∃ f', f = f' + 1 := ⟨f - 1, by omega⟩
      have hkr : k < row.length := by rw [HN.out]; exact hlt
      have HP := Lib.hid hp
      have HPS := Lib.hid hps
      have HKP : Hid (Keeps (fun _ => False) w wr) := Lib.hid hp.row.2.1
      have HSC0 : Hid (scan row k (row.length - k) k 0 = scan row k (row.length - k) k 0) := Lib.hid rfl
      clear hp hps
      go_wp2
      go_loop [6, 7] (fun i x => ∃ j y : Nat, k ≤ j ∧ j ≤ n ∧ y < 2147483648 ∧ i = .int .i64 j ∧ x = .int .i64 y ∧ scan row k (n - j) j y = scan row k (row.length - k) k 0) (fun i _ => n - (intOf i).toNat)
      case atStart => exact ⟨k, 0, by omega, by omega, by omega, rfl, rfl, by rw [HN.out]⟩
      case round =>
        obtain ⟨j, y, hj1, hj2, hy, rfl, rfl, hsc⟩ := hrel
        have HSC := Lib.hid hsc
        clear hsc
        by_cases hjn : j < n
        · obtain ⟨g, o, rfl, cj, hrj, hbl, hbh⟩ := HCELL.out wr j HKP.out hjn
          obtain ⟨b, hbb⟩ : ∃ b, b = row.getD j 0 := ⟨_, rfl⟩
          rw [← hbb] at cj hrj hbl hbh
          have HRJ := Lib.hid hrj
          have HBB := Lib.hid hbb
          clear hrj hbb
          by_cases h48 : 48 ≤ b
          · by_cases h57 : b ≤ 57
            · have hmod : (b - 48) % 256 = b - 48 := by omega
              by_cases hbig : 2147483648 ≤ 10 * (y : Int) + (b - 48)
              · have herr : partsF row = .error j := by
                  rw [← HPS.out]
                  refine parse_scan hkr ?_
                  rw [← HSC.out, show n - j = (n - j - 1) + 1 by omega]
                  exact scan_wrong HRJ.out ⟨h48, h57⟩ (.inl (by omega))
                have HF := Lib.hid (HER.out j wr herr HKP.out)
                clear herr
                go_wp2_with (go_at_call 43; refine (wrong_any _ _).mono ?_; rintro e w9 ⟨rfl, rfl⟩)
                exact HF.out
              · by_cases hkj : k < j
                · obtain ⟨g2, o2, e2, ck, _, _, _⟩ := HCELL.out wr k HKP.out hlt
                  injection e2 with e2
                  injection e2 with e2a e2b
                  subst e2a e2b
                  obtain ⟨z, hz⟩ : ∃ z, z = row.getD k 0 := ⟨_, rfl⟩
                  rw [← hz] at ck
                  have HZ := Lib.hid hz
                  clear hz
                  by_cases hz48 : z = 48
                  · subst hz48
                    have herr : partsF row = .error j := by
                      rw [← HPS.out]
                      refine parse_scan hkr ?_
                      rw [← HSC.out, show n - j = (n - j - 1) + 1 by omega]
                      exact scan_wrong HRJ.out ⟨h48, h57⟩ (.inr ⟨hkj, HZ.out.symm⟩)
                    have HF := Lib.hid (HER.out j wr herr HKP.out)
                    clear herr
                    go_wp2_with (go_at_call 43; refine (wrong_any _ _).mono ?_; rintro e w9 ⟨rfl, rfl⟩)
                    exact HF.out
                  · have hnw : ¬ (2147483648 ≤ 10 * y + (b - 48).toNat ∨ (k < j ∧ row.getD k 0 = 48)) := fun h => h.elim (fun h => by omega) (fun h => hz48 (HZ.out.trans h.2))
                    have hsn : scan row k (n - (j + 1)) (j + 1) (10 * y + (b - 48).toNat) = scan row k (row.length - k) k 0 := by
                      rw [← HSC.out, show n - j = (n - (j + 1)) + 1 by omega]
                      exact (scan_step HRJ.out ⟨h48, h57⟩ hnw).symm
                    have HSN := Lib.hid hsn
                    have hcast : 10 * (y : Int) + (b - 48) = ((10 * y + (b - 48).toNat : Nat) : Int) := by omega
                    have HCA := Lib.hid hcast
                    clear hnw hsn hcast
                    go_wp2
                    go_round
                    case rel => exact ⟨j + 1, 10 * y + (b - 48).toNat, by omega, by omega, by omega, by go_num, by rw [HCA.out], HSN.out⟩
                    case measure => simp [intOf]; omega
                · have hnw : ¬ (2147483648 ≤ 10 * y + (b - 48).toNat ∨ (k < j ∧ row.getD k 0 = 48)) := fun h => h.elim (fun h => by omega) (fun h => hkj h.1)
                  have hsn : scan row k (n - (j + 1)) (j + 1) (10 * y + (b - 48).toNat) = scan row k (row.length - k) k 0 := by
                    rw [← HSC.out, show n - j = (n - (j + 1)) + 1 by omega]
                    exact (scan_step HRJ.out ⟨h48, h57⟩ hnw).symm
                  have HSN := Lib.hid hsn
                  have hcast : 10 * (y : Int) + (b - 48) = ((10 * y + (b - 48).toNat : Nat) : Int) := by omega
                  have HCA := Lib.hid hcast
                  clear hnw hsn hcast
                  go_wp2
                  go_round
                  case rel => exact ⟨j + 1, 10 * y + (b - 48).toNat, by omega, by omega, by omega, by go_num, by rw [HCA.out], HSN.out⟩
                  case measure => simp [intOf]; omega
            · have hsc : scan row k (row.length - k) k 0 = .ok (j, y) := by
                rw [← HSC.out]; exact scan_other HRJ.out (by omega)
              have HS2 := Lib.hid hsc
              clear hsc
              by_cases hjk : j = k
              · subst hjk
                have herr : partsF row = .error j := by
                  rw [← HPS.out]
                  exact parse_mark hkr HS2.out (.inr (.inl rfl))
                have HF := Lib.hid (HER.out j wr herr HKP.out)
                clear herr
                go_wp2_with (go_at_call 43; refine (wrong_any _ _).mono ?_; rintro e w9 ⟨rfl, rfl⟩)
                exact HF.out
              · have hq1 : (j == k) = false := by simpa using hjk
                have hq2 : ((j : Int) == (k : Int)) = false := by simp; omega
                have hq3 : (j == n) = false := by simp; omega
                have hq4 : ((j : Int) == (n : Int)) = false := by simp; omega
                by_cases h32 : b = 32
                · omega
                · have herr : partsF row = .error j := by
                    rw [← HPS.out]
                    refine parse_mark hkr HS2.out (.inr (.inr ?_))
                    rw [← HBB.out]; exact h32
                  have HF := Lib.hid (HER.out j wr herr HKP.out)
                  clear herr
                  go_wp2_with (go_at_call 43; refine (wrong_any _ _).mono ?_; rintro e w9 ⟨rfl, rfl⟩)
                  exact HF.out
          · have hsc : scan row k (row.length - k) k 0 = .ok (j, y) := by
              rw [← HSC.out]; exact scan_other HRJ.out (by omega)
            have HS2 := Lib.hid hsc
            clear hsc
            by_cases hjk : j = k
            · subst hjk
              have herr : partsF row = .error j := by
                rw [← HPS.out]
                exact parse_mark hkr HS2.out (.inr (.inl rfl))
              have HF := Lib.hid (HER.out j wr herr HKP.out)
              clear herr
              go_wp2_with (go_at_call 43; refine (wrong_any _ _).mono ?_; rintro e w9 ⟨rfl, rfl⟩)
              exact HF.out
            · have hq1 : (j == k) = false := by simpa using hjk
              have hq2 : ((j : Int) == (k : Int)) = false := by simp; omega
              have hq3 : (j == n) = false := by simp; omega
              have hq4 : ((j : Int) == (n : Int)) = false := by simp; omega
              by_cases h32 : b = 32
              · subst h32
                have hmk : ¬ (j = row.length ∨ j = k ∨ row.getD j 0 ≠ 32) := by
                  rw [HN.out, ← HBB.out]
                  rintro (h | h | h)
                  · omega
                  · exact hjk h
                  · exact h rfl
                have HMK := Lib.hid hmk
                clear hmk
                by_cases hsh : n - j - 1 ≤ y
                · have herr : partsF row = .error n := by
                    rw [← HPS.out, ← HN.out]
                    exact parse_short hkr HS2.out HMK.out (by rw [HN.out]; exact hsh)
                  have HF := Lib.hid (HER.out n wr herr HKP.out)
                  have hsh' : (n : Int) - (j : Int) - 1 ≤ (y : Int) := by omega
                  clear herr
                  go_wp2_with (go_at_call 43; refine (wrong_any _ _).mono ?_; rintro e w9 ⟨rfl, rfl⟩)
                  exact HF.out
                · have hsh' : ¬ ((n : Int) - (j : Int) - 1 ≤ (y : Int)) := by omega
                  have hcut := cut_lh (P := Tryd.prog) Tryd.underlying22 (by kernel_rfl) (some ⟨g, o, none⟩) n c (j + 1) (j + 1 + y) ((j : Int) + 1) ((j : Int) + 1 + (y : Int)) (by omega) (by omega) (by omega) (by omega)
                  rw [show j + 1 + y - (j + 1) = y by omega] at hcut
                  have hrd := (HR.out.keep HKP.out (no_out _ _)).cutLH (l := j + 1) (k := j + 1 + y) (c := c) (by omega) (by omega) hc
                  rw [show j + 1 + y - (j + 1) = y by omega] at hrd
                  obtain ⟨bs, hbs⟩ : ∃ bs, bs = (row.drop (j + 1)).take y := ⟨_, rfl⟩
                  have hbl2 : bs.length = y := by rw [hbs, List.length_take, List.length_drop, HN.out]; omega
                  have e2 : ((vb row).drop (j + 1)).take y = vb bs := by rw [hbs]; simp [vb]
                  rw [e2] at hrd
                  obtain ⟨A4, hA4⟩ : ∃ A4, A4 = Aff.cutA (some ⟨g, o, none⟩) c (j + 1) := ⟨_, rfl⟩
                  rw [← hA4] at hcut hrd
                  have hcl := clone_any wr A4 (c - (j + 1)) bs (by rw [hbl2]; exact hrd) (by omega)
                  have hcl' : Calls Tryd.prog 44 #[.slice A4 y (c - (j + 1))] wr fun e w' => ∃ A c, e = .returned (.slice A y c) ∧ w'.ownsRow 0 5 1 (.slice A y c) y (vb bs) ∧ Keeps (fun _ => False) wr w' ∧ ∀ g, (Value.slice A y c).ownBlock = some g → wr.heap.size ≤ g := by
                    have h3 := hcl.mono (fun e w' h => h)
                    unfold NewBytes at h3
                    rw [hbl2] at h3
                    exact h3
                  have HCL := Lib.hid hcl'
                  have HBS := Lib.hid hbs
                  have HBL2 := Lib.hid hbl2
                  obtain ⟨x, hx⟩ : ∃ x, x = row.getD (j + 1 + y) 0 := ⟨_, rfl⟩
                  have HX := Lib.hid hx
                  clear hcl hcl' hrd hbs hbl2 e2 hA4 hx
                  by_cases hx32 : x = 32
                  · subst hx32
                    go_wp2_with (first
                      | (go_at_call 44; refine HCL.out.mono ?_; rintro e w1 ⟨A1, c1, rfl, ho1, hk1, hf1⟩; have HO1 := Lib.hid ho1; have HK1 := Lib.hid hk1; have HF1 := Lib.hid hf1; have HMA := Lib.hid ((HP.out.row.keep hk1).1.alloc (.cells #[Value.slice A1 y c1] 22)); have HRD2 := Lib.hid (Rd.of_blk (Blk.new w1 22 [Value.slice A1 y c1]) (n := 1) rfl); clear ho1 hk1 hf1)
                      | (at_builtin; refine wpList_append_rd _ rfl (.tmp 100) (.tmp 108) 24 rfl 22 (.slice none 0 0) 24 Tryd.underlying24 infoSl rfl (.slice A2 m c2) m vals rfl HMA.out _ 1 1 _ rfl HRD2.out (by intro u hu; rw [List.mem_singleton.1 hu]; rfl) (by unfold maxLen; omega) (by omega) ?_; intro A5 c5 w5 hown5 hg5 hb5; have HP5 := Lib.hid (PartsV.step HP.out HBL2.out HK1.out HO1.out HF1.out hown5 hg5 (by simpa only [World.size_alloc] using hb5)); obtain ⟨g9, o9, e9, ce, _, _, _⟩ := HCELL.out w5 (j + 1 + y) HP5.out.row.2.1 (by omega); injection e9 with e9; injection e9 with e9a e9b; subst e9a e9b; rw [← HX.out] at ce; clear hown5 hg5 hb5))
                    go_roundw
                    case rel =>
                      refine ⟨j + 1 + y + 1, A5, m + 1, c5, _, pss ++ [bs], f, by omega, by omega, by go_num, rfl, HP5.out, by omega, ?_⟩
                      rw [← HPS.out, parse_step hkr HS2.out HMK.out (by rw [HN.out]; exact hsh) (by rw [← HX.out]; simp), ← HBS.out]
                    case measure => simp [intOf]; omega
                  · have herr : partsF row = .error (j + 1 + y) := by
                      rw [← HPS.out]
                      exact parse_last hkr HS2.out HMK.out (by rw [HN.out]; exact hsh) (by rw [← HX.out]; exact hx32)
                    have HERR := Lib.hid herr
                    clear herr
                    go_wp2_with (first
                      | (go_at_call 44; refine HCL.out.mono ?_; rintro e w1 ⟨A1, c1, rfl, ho1, hk1, hf1⟩; have HO1 := Lib.hid ho1; have HK1 := Lib.hid hk1; have HF1 := Lib.hid hf1; have HMA := Lib.hid ((HP.out.row.keep hk1).1.alloc (.cells #[Value.slice A1 y c1] 22)); have HRD2 := Lib.hid (Rd.of_blk (Blk.new w1 22 [Value.slice A1 y c1]) (n := 1) rfl); clear ho1 hk1 hf1)
                      | (at_builtin; refine wpList_append_rd _ rfl (.tmp 100) (.tmp 108) 24 rfl 22 (.slice none 0 0) 24 Tryd.underlying24 infoSl rfl (.slice A2 m c2) m vals rfl HMA.out _ 1 1 _ rfl HRD2.out (by intro u hu; rw [List.mem_singleton.1 hu]; rfl) (by unfold maxLen; omega) (by omega) ?_; intro A5 c5 w5 hown5 hg5 hb5; have HP5 := Lib.hid (PartsV.step HP.out HBL2.out HK1.out HO1.out HF1.out hown5 hg5 (by simpa only [World.size_alloc] using hb5)); obtain ⟨g9, o9, e9, ce, _, _, _⟩ := HCELL.out w5 (j + 1 + y) HP5.out.row.2.1 (by omega); injection e9 with e9; injection e9 with e9a e9b; subst e9a e9b; rw [← HX.out] at ce; clear hown5 hg5 hb5)
                      | (go_at_call 43; refine (wrong_any _ _).mono ?_; rintro e w9 ⟨rfl, rfl⟩))
                    have hf9 := HER.out (j + 1 + y) _ HERR.out HP5.out.row.2.1
                    rw [show (((j + 1 + y : Nat)) : Int) = (j : Int) + 1 + (y : Int) by omega] at hf9
                    exact hf9
              · have herr : partsF row = .error j := by
                  rw [← HPS.out]
                  refine parse_mark hkr HS2.out (.inr (.inr ?_))
                  rw [← HBB.out]; exact h32
                have HF := Lib.hid (HER.out j wr herr HKP.out)
                clear herr
                go_wp2_with (go_at_call 43; refine (wrong_any _ _).mono ?_; rintro e w9 ⟨rfl, rfl⟩)
                exact HF.out
        · obtain rfl : j = n := by omega
          have herr : partsF row = .error j := by
            rw [← HPS.out]
            refine parse_mark (n := y) hkr ?_ (.inl HN.out.symm)
            rw [← HSC.out]
            exact scan_end (List.getElem?_eq_none (by rw [HN.out]; exact Nat.le_refl _))
          have HF := Lib.hid (HER.out j wr herr HKP.out)
          clear herr
          go_wp2_with (go_at_call 43; refine (wrong_any _ _).mono ?_; rintro e w9 ⟨rfl, rfl⟩)
          exact HF.out
    · have hend : partsF row = .ok pss := by rw [← hps]; exact parse_end (by rw [HN.out]; omega)
      have HF := Lib.hid (HOK.out pss A2 m c2 vals wr hend hp)
      clear hp hps hend
      go_wp2
      exact HF.out
end Go.Proofs.YtnlnbgjpbnjjfaaDoor

