/- Texts. -/
import Derived.Test.YtplleficmkfniaaGreatDoorQ05
import Derived.Test.YtplleficmkfniaaGreatDoorCards
import Derived.Test.YtplleficmkfniaaGreatDoorTie
import Derived.ProofKit
import Derived.Deep.DeepHandedRow
import Derived.Lib.LaidTab
import Derived.Stop.LaidErr
import Derived.Test.YtplleficmkfniaaGreatDoorQ06
set_option linter.unusedSimpArgs false
set_option maxRecDepth 100000
set_option maxHeartbeats 4000000
namespace Go.Proofs.YtplleficmkfniaaGreatDoor
open Go Go.RowKit Go.Sha Go.Aff
theorem own : ownKnob Tryz.prog.godebug = none := by kernel_rfl
theorem laidOut : laidOutB Tryz.prog = true := by kernel_rfl
theorem gFirst : Tryz.prog.globalNamed "affidavit/sha.first" = some 1 := by kernel_rfl
theorem gConst : Tryz.prog.globalNamed "affidavit/sha.constants" = some 3 := by kernel_rfl
theorem gFirstT : (Tryz.prog.globals[1]?).map (·.type) = some 254 := by kernel_rfl
theorem gConstT : (Tryz.prog.globals[3]?).map (·.type) = some 346 := by kernel_rfl
theorem cellsU32 : Tryz.prog.cellsOf 253 = 1 := by kernel_rfl
theorem cells8U32 : Tryz.prog.cellsOf 254 = 8 := by kernel_rfl
theorem cells64U32 : Tryz.prog.cellsOf 346 = 64 := by kernel_rfl
def fillCells (cs : Array Value) : Obj → Obj
 | .cells _ t frozen => .cells cs t frozen
 | o => o
end Go.Proofs.YtplleficmkfniaaGreatDoor
namespace Go.Aff
open Go Go.RowKit Go.ChangeShapes Go.WideShapes Go.Deep
section
variable {H : Type} {enc : TypeId × Value → H} {P : Program} {w : World} {base : Nat} {held : Bool}
def PartsData (d : DataW H) (pss : List (List Int)) : Prop :=
 d = .nil ∧ pss = [] ∨ ∃ es sp, d = .slice es sp ∧ es.length = pss.length ∧ ∀ (i : Nat) (bs : List Int), pss[i]? = some bs → bs = [] ∨ ∃ l s, es[i]? = some (.slice l s) ∧ l.length = bs.length
theorem rd_at {A : Option Addr} {n : Nat} {xs : List Value} (hl : xs.length = n) (h0 : A = none → n = 0) (h : ∀ a, A = some a → ∀ j, j < n → w.cell? (a.add j) = xs[j]?) : Rd w A n xs := by
 refine ⟨hl, fun hn => ?_⟩
 cases A with
 | none => exact absurd (h0 rfl) (by omega)
 | some a =>
  obtain ⟨g, o, spot⟩ := a
  have h1 := h _ rfl 0 hn
  rw [List.getElem?_eq_getElem (by omega)] at h1
  have hs : spot = none := by simpa [Addr.add] using World.cell?_spot h1
  subst hs
  exact ⟨g, o, rfl, fun j hj => by rw [← h _ rfl j hj, add_at]⟩
theorem open_parts {r : Reach} {b0 : Nat} {t e q : TypeId} {v : Value} {d : DataW H} {p : List MemPlace} (ht : P.underlying t = some (.slice e)) (he : P.underlying e = some (.slice q)) (hq : P.underlying q = some (.int .u8)) (ce : P.cellsOf e = 1) (cq : P.cellsOf q = 1)
  (hv : Value.okWide P w r b0 t v) (h : DataW.Trod enc P w base (fun _ => true) held t v d p) :
  ∃ (A : Option Addr) (n c : Nat) (pss : List (List Int)) (vals : List Value), v = .slice A n c ∧ n ≤ c ∧ pss.length = n ∧ Rd w A n vals ∧
   (∀ (i : Nat) (bs : List Int), pss[i]? = some bs → ∃ A' c', vals[i]? = some (Value.slice A' bs.length c') ∧ Rd w A' bs.length (vb bs) ∧ IsBytes bs ∧ bs.length ≤ c') ∧ PartsData d pss := by
 obtain ⟨A, n, c, rfl⟩ := okWide_slice ht hv
 obtain ⟨fuel, hf⟩ := h
 rcases open_int_rows ht he hq ce cq hf with ⟨hcs, hx⟩ | ⟨a, len, cap, A1, L, C, Z, hcs, _, hl, hm, hx, hc⟩
 ·simp [Value.cells] at hcs
  obtain ⟨rfl, rfl, rfl⟩ := hcs
  exact ⟨none, 0, 0, [], [], rfl, Nat.le_refl _, rfl, Rd.nil _ _, (fun i bs h => by simp at h), .inl ⟨by injection hx, rfl⟩⟩
 ·simp [Value.cells] at hcs
  obtain ⟨rfl, rfl, rfl⟩ := hcs
  refine ⟨some a, n, c, (List.range n).map (fun r => (Z r).take (L r)), (List.range n).map (fun r => Value.slice (A1 r) (L r) (C r)), rfl, hl, by simp, ?_, ?_, ?_⟩
  ·refine rd_at (by simp) (fun h => by cases h) (fun a' ha j hj => ?_)
   injection ha with ha
   subst ha
   rw [(hc j (by omega)).1]
   simp [hj]
  ·intro i bs hi
   have hin : i < n := by
    have := (List.getElem?_eq_some_iff.1 hi).1
    simpa using this
   have hb : (Z i).take (L i) = bs := by simpa [hin] using hi
   obtain ⟨h1, h2, h3, h4, h5, h6, h7⟩ := hc i (by omega)
   have hlen : bs.length = L i := by rw [← hb, List.length_take]; omega
   refine ⟨A1 i, C i, by simp [hin, hlen], ?_, ?_, by omega⟩
   ·rw [hlen]
    refine rd_at (by simp [vb, hlen]) (fun h => by have := h6 h; omega) (fun a' ha j hj => ?_)
    rw [(h7 a' ha).2 j (by omega)]
    have hjb : j < bs.length := by omega
    have e : bs[j]? = (Z i)[j]? := by rw [← hb, List.getElem?_take, if_pos hj]
    have hjz : j < (Z i).length := by omega
    simp [vb, e, List.getD_eq_getElem?_getD, List.getElem?_eq_getElem hjz]
   ·rw [← hb]
    exact bytes_take (isBytes_of h5)
  ·right
   refine ⟨_, _, (by injection hx), by simp, fun i bs hi => ?_⟩
   have hin : i < n := by
    have := (List.getElem?_eq_some_iff.1 hi).1
    simpa using this
   have hb : (Z i).take (L i) = bs := by simpa [hin] using hi
   obtain ⟨h1, h2, h3, h4, h5, h6, h7⟩ := hc i (by omega)
   cases hA : A1 i with
   | none =>
    left
    have := h6 hA
    rw [← hb, show L i = 0 by omega]
    simp
   | some a' =>
    right
    refine ⟨lits .u8 ((Z i).take (L i)), lits .u8 ((Z i).drop (L i)), ?_, by simp [lits, ← hb]⟩
    simp [hin, intRow, hA]
end
end Go.Aff
namespace Go.Proofs.YtplleficmkfniaaGreatDoor
open Go Go.RowKit Go.Sha Go.Aff
section
variable {H : Type}
theorem bulk_mem : ∀ (l : List (DataW H)) (i : Nat) (d : DataW H), l[i]? = some d → Rows.uptoBulk d ≤ Rows.uptoBulkAll l
 | [], _, _, h => by simp at h
 | x :: l, 0, d, h => by
  have e : x = d := by simpa using h
  subst e
  unfold Rows.uptoBulkAll; omega
 | x :: l, i + 1, d, h => by
  have := bulk_mem l i d (by simpa using h)
  unfold Rows.uptoBulkAll; omega
theorem bulk_pos (d : DataW H) : 1 ≤ Rows.uptoBulk d := by
 cases d with
 | lit l => cases l <;> simp [Rows.uptoBulk]
 | _ => simp [Rows.uptoBulk]
theorem bulk_len : ∀ l : List (DataW H), l.length ≤ Rows.uptoBulkAll l
 | [] => by simp
 | d :: l => by
  have := bulk_len l
  have := bulk_pos d
  simp only [Rows.uptoBulkAll, List.length_cons]; omega
theorem bulk_flat : ∀ (es : List (DataW H)) (pss : List (List Int)), es.length = pss.length → (∀ (i : Nat) (bs : List Int), pss[i]? = some bs → bs = [] ∨ ∃ l s, es[i]? = some (.slice l s) ∧ l.length = bs.length) → pss.flatten.length ≤ Rows.uptoBulkAll es
 | [], [], _, _ => by simp
 | [], _ :: _, h, _ => by simp at h
 | _ :: _, [], h, _ => by simp at h
 | e :: es, bs :: pss, h, hp => by
  have ih := bulk_flat es pss (by simpa using h) (fun i b hi => by simpa using hp (i + 1) b (by simpa using hi))
  have h0 := hp 0 bs rfl
  have : bs.length ≤ Rows.uptoBulk e := by
   rcases h0 with rfl | ⟨l, s, he, hl⟩
   ·simp
   ·have e1 : e = .slice l s := by simpa using he
    subst e1
    have := bulk_len l
    simp only [Rows.uptoBulk]; omega
  simp only [List.flatten_cons, List.length_append, Rows.uptoBulkAll]
  omega
theorem parts_small {d : DataW H} {pss : List (List Int)} (h : PartsData d pss) : pss.length ≤ Rows.uptoBulk d ∧ pss.flatten.length ≤ Rows.uptoBulk d := by
 rcases h with ⟨rfl, rfl⟩ | ⟨es, sp, rfl, hl, hp⟩
 ·simp
 ·have h1 := bulk_len es
  have h2 := bulk_flat es pss hl hp
  simp only [Rows.uptoBulk]
  omega
theorem small_at {ds : List (DataW H)} (h : Rows.uptoSmall H ds = true) {i : Nat} {d : DataW H} (hi : ds[i]? = some d) : Rows.uptoBulk d ≤ 1048576 := by
 have h1 := of_decide_eq_true h
 have h2 := bulk_mem ds i d hi
 omega
end
theorem partsO_of {w : World} {A : Option Addr} {pss : List (List Int)} {vals : List Value} (hr : Rd w A pss.length vals)
  (h : ∀ (i : Nat) (bs : List Int), pss[i]? = some bs → ∃ A' c', vals[i]? = some (Value.slice A' bs.length c') ∧ Rd w A' bs.length (vb bs) ∧ IsBytes bs ∧ bs.length ≤ c') (hs : pss.flatten.length ≤ 140737488351232) : RdPartsO (fun _ => False) w A pss ∧ ∀ bs ∈ pss, IsBytes bs := by
 refine ⟨⟨vals, hr, (fun _ _ _ h => h), fun i bs hi => ?_⟩, fun bs hb => ?_⟩
 ·obtain ⟨A', c', h1, h2, h3, h4⟩ := h i bs hi
  have := part_le pss i bs hi
  exact ⟨A', c', h1, h2, (fun _ _ _ h => h), h3, h4, by omega⟩
 ·obtain ⟨i, hi⟩ := List.mem_iff_getElem?.1 hb
  obtain ⟨A', c', h1, h2, h3, h4⟩ := h i bs hi
  exact h3
end Go.Proofs.YtplleficmkfniaaGreatDoor
namespace Go.Utf
def formF (c : Int) : Int × Int × Int :=
 if c < 128 then (1, 0, 0) else if c < 194 then (0, 0, 0) else if c < 224 then (2, 128, 191) else if c = 224 then (3, 160, 191) else if c = 237 then (3, 128, 159)
 else if c < 240 then (3, 128, 191) else if c = 240 then (4, 144, 191) else if c < 244 then (4, 128, 191) else if c = 244 then (4, 128, 143) else (0, 0, 0)
def mayF (f : Int × Int × Int) (i : Int) (c : Int) : Bool := if i = 1 then decide (c ≥ f.2.1) && decide (c ≤ f.2.2) else decide (c ≥ 128) && decide (c ≤ 191)
def takeF (h : List Int) (c : Int) : Option (List Int) :=
 match h with
 | [] => if (formF c).1 = 0 then none else if (formF c).1 > 1 then some [c] else some []
 | x :: r => if mayF (formF x) (r.length + 1) c then (if ((r.length : Int) + 1) + 1 = (formF x).1 then some [] else some (x :: r ++ [c])) else none
def feedF : List Int → List Int → Option (List Int)
 | h, [] => some h
 | h, c :: cs => match takeF h c with
  | none => none
  | some h' => feedF h' cs
def wideR (c : Int) : Int := if c < 128 then 1 else if c ≥ 194 ∧ c ≤ 223 then 2 else if c ≥ 224 ∧ c ≤ 239 then 3 else if c ≥ 240 ∧ c ≤ 244 then 4 else 0
def secondR (c d : Int) : Bool := if d < 128 ∨ d > 191 then false else if c = 224 then decide (d ≥ 160) else if c = 237 then decide (d ≤ 159) else if c = 240 then decide (d ≥ 144) else if c = 244 then decide (d ≤ 143) else true
def contR (d : Int) : Bool := !(decide (d < 128) || decide (d > 191))
def atR : List Int → Option (Int × Nat)
 | [] => none
 | c :: l =>
  if wideR c = 1 then some (c, 1)
  else if wideR c = 2 then (match l with
   | d :: _ => if secondR c d && contR d then some (64 * (c - 192) + d - 128, 2) else none
   | _ => none)
  else if wideR c = 3 then (match l with
   | d :: e :: _ => if secondR c d && contR d && contR e then some (64 * (64 * (c - 224) + d - 128) + e - 128, 3) else none
   | _ => none)
  else if wideR c = 4 then (match l with
   | d :: e :: f :: _ => if secondR c d && contR d && contR e && contR f then some (64 * (64 * (64 * (c - 240) + d - 128) + e - 128) + f - 128, 4) else none
   | _ => none)
  else none
def runesR : Nat → List Int → List Int × Bool
 | 0, l => ([], l.isEmpty)
 | k + 1, l => match l with
  | [] => ([], true)
  | c :: r => match atR (c :: r) with
   | none => ([], false)
   | some (x, n) => ((x :: (runesR k ((c :: r).drop n)).1), (runesR k ((c :: r).drop n)).2)
def rightR (l : List Int) : Bool := (runesR l.length l).2
theorem feed_cons (h : List Int) (c : Int) (cs : List Int) : feedF h (c :: cs) = match takeF h c with
  | none => none
  | some h' => feedF h' cs := rfl
def unitsOf (r : Int) : List Int := if r < 65536 then [r] else [55296 + (r - 65536) / 1024, 56320 + (r - 65536) % 1024]
def unitsR (l : List Int) : List Int := ((runesR l.length l).1.map unitsOf).flatten
def lexR : List Int → List Int → Int
 | [], [] => 0
 | [], _ :: _ => -1
 | _ :: _, [] => 1
 | x :: a, y :: b => if x < y then -1 else if x > y then 1 else lexR a b
inductive RightL : List Int → List Int → Prop
 | nil : RightL [] []
 | cons {l : List Int} {r : Int} {n : Nat} {us : List Int} (h : atR l = some (r, n)) (ht : RightL (l.drop n) us) : RightL l (unitsOf r ++ us)
def ltU (a b : List Int) : Prop := lexR (unitsR a) (unitsR b) < 0
end Go.Utf
