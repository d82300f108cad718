/-
  what the seat's cards share; lists of rows of bytes as a parameter.
-/
import Derived.Test.YtgblndddcbfdiaaDoorShaAW
import Derived.Test.YtgblndddcbfdiaaDoorOpenK
import Derived.Test.YtgblndddcbfdiaaDoorCards
import Derived.Test.YtgblndddcbfdiaaDoorTie
import Derived.ProofKit
import Derived.Deep.DeepHandedRow
import Derived.Lib.LaidTab
import Derived.Stop.LaidErr
import Derived.Test.YtgblndddcbfdiaaDoorShaBW
import Derived.Deep.Matrix
set_option linter.unusedSimpArgs false
namespace Go.Proofs.YtgblndddcbfdiaaDoor
open Go Go.RowKit Go.Sha Go.Aff

theorem own : ownKnob Tryd.prog.godebug = none := by kernel_rfl
theorem laidOut : laidOutB Tryd.prog = true := by kernel_rfl
theorem gFirst : Tryd.prog.globalNamed "affidavit/sha.first" = some 1 := by kernel_rfl
theorem gConst : Tryd.prog.globalNamed "affidavit/sha.constants" = some 0 := by kernel_rfl
theorem gFirstT : (Tryd.prog.globals[1]?).map (·.type) = some 38 := by kernel_rfl
theorem gConstT : (Tryd.prog.globals[0]?).map (·.type) = some 83 := by kernel_rfl
theorem cellsU32 : Tryd.prog.cellsOf 37 = 1 := by kernel_rfl
theorem cells8U32 : Tryd.prog.cellsOf 38 = 8 := by kernel_rfl
theorem cells64U32 : Tryd.prog.cellsOf 83 = 64 := by kernel_rfl

set_option maxRecDepth 100000 in
/-- What the listed variables hold, out of a row's own condition. -/
theorem glob_of_laid {W : World} (h : laidMetH Tryd.prog [("affidavit/sha.first", Rows.laid_affidavit_sha_first), ("affidavit/sha.constants", Rows.laid_affidavit_sha_constants)] W) : Glob W := by
  have h1 : laidMet Tryd.prog [("affidavit/sha.first", Lib.tabData .u32 firstL), ("affidavit/sha.constants", Lib.tabData .u32 K)] W := h
  have a := Lib.tabIs_of_head gFirst gFirstT Tryd.underlying38 Tryd.underlying37 cellsU32 cells8U32 h1
  have b := Lib.tabIs_of_head gConst gConstT Tryd.underlying83 Tryd.underlying37 cellsU32 cells64U32 (laidMet.tail h1)
  refine ⟨fun t ht => b.cell gConst t ht, fun i hi => ?_⟩
  exact a.cell gFirst i hi

def fillCells (cs : Array Value) : Obj → Obj
  | .cells _ t frozen => .cells cs t frozen
  | o => o
/-- A WORLD FOR THE WITNESS: the settled one, the two tables holding what their initialisers lay. -/
noncomputable def laidWorld (os : Os) : World :=
  let w := World.holding Tryd.prog os ⟨#[], #[], []⟩
  { w with heap := (w.heap.modify 1 (fillCells (vi .u32 firstL).toArray)).modify 0 (fillCells (vi .u32 K).toArray) }
end Go.Proofs.YtgblndddcbfdiaaDoor

namespace Go.Aff
open Go Go.RowKit Go.ChangeShapes Go.WideShapes Go.Deep
section
variable {H : Type} {enc : TypeId × Value → H} {P : Program} {w : World} {base : Nat} {held : Bool}

/-- What the datum of parts says of their lengths. -/
def PartsData (d : DataW H) (pss : List (List Int)) : Prop :=
  d = .nil ∧ pss = [] ∨ ∃ es sp, d = .slice es sp ∧ es.length = pss.length ∧ ∀ (i : Nat) (bs : List Int), pss[i]? = some bs → bs = [] ∨ ∃ l s, es[i]? = some (.slice l s) ∧ l.length = bs.length

theorem rd_at {A : Option Addr} {n : Nat} {xs : List Value} (hl : xs.length = n) (h0 : A = none → n = 0) (h : ∀ a, A = some a → ∀ j, j < n → w.cell? (a.add j) = xs[j]?) : Rd w A n xs := by
  refine ⟨hl, fun hn => ?_⟩
  cases A with
  | none => exact absurd (h0 rfl) (by omega)
  | some a =>
    obtain ⟨g, o, spot⟩ := a
    have h1 := h _ rfl 0 hn
    rw [List.getElem?_eq_getElem (by omega)] at h1
    have hs : spot = none := by simpa [Addr.add] using World.cell?_spot h1
    subst hs
    exact ⟨g, o, rfl, fun j hj => by rw [← h _ rfl j hj, add_at]⟩

/-- A SLICE OF BYTE SLICES. -/
theorem open_parts {r : Reach} {b0 : Nat} {t e q : TypeId} {v : Value} {d : DataW H} {p : List MemPlace} (ht : P.underlying t = some (.slice e)) (he : P.underlying e = some (.slice q)) (hq : P.underlying q = some (.int .u8)) (ce : P.cellsOf e = 1) (cq : P.cellsOf q = 1)
    (hv : Value.okWide P w r b0 t v) (h : DataW.Trod enc P w base (fun _ => true) held t v d p) :
    ∃ (A : Option Addr) (n c : Nat) (pss : List (List Int)) (vals : List Value), v = .slice A n c ∧ n ≤ c ∧ pss.length = n ∧ Rd w A n vals ∧
      (∀ (i : Nat) (bs : List Int), pss[i]? = some bs → ∃ A' c', vals[i]? = some (Value.slice A' bs.length c') ∧ Rd w A' bs.length (vb bs) ∧ IsBytes bs ∧ bs.length ≤ c') ∧ PartsData d pss := by
  obtain ⟨A, n, c, rfl⟩ := okWide_slice ht hv
  obtain ⟨fuel, hf⟩ := h
  rcases open_int_rows ht he hq ce cq hf with ⟨hcs, hx⟩ | ⟨a, len, cap, A1, L, C, Z, hcs, _, hl, hm, hx, hc⟩
  · simp [Value.cells] at hcs
    obtain ⟨rfl, rfl, rfl⟩ := hcs
    exact ⟨none, 0, 0, [], [], rfl, Nat.le_refl _, rfl, Rd.nil _ _, (fun i bs h => by simp at h), .inl ⟨by injection hx, rfl⟩⟩
  · simp [Value.cells] at hcs
    obtain ⟨rfl, rfl, rfl⟩ := hcs
    refine ⟨some a, n, c, (List.range n).map (fun r => (Z r).take (L r)), (List.range n).map (fun r => Value.slice (A1 r) (L r) (C r)), rfl, hl, by simp, ?_, ?_, ?_⟩
    · refine rd_at (by simp) (fun h => by cases h) (fun a' ha j hj => ?_)
      injection ha with ha
      subst ha
      rw [(hc j (by omega)).1]
      simp [hj]
    · intro i bs hi
      have hin : i < n := by
        have := (List.getElem?_eq_some_iff.1 hi).1
        simpa using this
      have hb : (Z i).take (L i) = bs := by simpa [hin] using hi
      obtain ⟨h1, h2, h3, h4, h5, h6, h7⟩ := hc i (by omega)
      have hlen : bs.length = L i := by rw [← hb, List.length_take]; omega
      refine ⟨A1 i, C i, by simp [hin, hlen], ?_, ?_, by omega⟩
      · rw [hlen]
        refine rd_at (by simp [vb, hlen]) (fun h => by have := h6 h; omega) (fun a' ha j hj => ?_)
        rw [(h7 a' ha).2 j (by omega)]
        have hjb : j < bs.length := by omega
        have e : bs[j]? = (Z i)[j]? := by rw [← hb, List.getElem?_take, if_pos hj]
        have hjz : j < (Z i).length := by omega
        simp [vb, e, List.getD_eq_getElem?_getD, List.getElem?_eq_getElem hjz]
      · rw [← hb]
        exact bytes_take (isBytes_of h5)
    · right
      refine ⟨_, _, (by injection hx), by simp, fun i bs hi => ?_⟩
      have hin : i < n := by
        have := (List.getElem?_eq_some_iff.1 hi).1
        simpa using this
      have hb : (Z i).take (L i) = bs := by simpa [hin] using hi
      obtain ⟨h1, h2, h3, h4, h5, h6, h7⟩ := hc i (by omega)
      cases hA : A1 i with
      | none =>
        left
        have := h6 hA
        rw [← hb, show L i = 0 by omega]
        simp
      | some a' =>
        right
        refine ⟨lits .u8 ((Z i).take (L i)), lits .u8 ((Z i).drop (L i)), ?_, by simp [lits, ← hb]⟩
        simp [hin, intRow, hA]
end
end Go.Aff
namespace Go.Proofs.YtgblndddcbfdiaaDoor
open Go Go.RowKit Go.Sha Go.Aff
section
variable {H : Type}
theorem bulk_mem : ∀ (l : List (DataW H)) (i : Nat) (d : DataW H), l[i]? = some d → Rows.uptoBulk d ≤ Rows.uptoBulkAll l
  | [], _, _, h => by simp at h
  | x :: l, 0, d, h => by
    have e : x = d := by simpa using h
    subst e
    unfold Rows.uptoBulkAll; omega
  | x :: l, i + 1, d, h => by
    have := bulk_mem l i d (by simpa using h)
    unfold Rows.uptoBulkAll; omega
theorem bulk_pos (d : DataW H) : 1 ≤ Rows.uptoBulk d := by
  cases d with
  | lit l => cases l <;> simp [Rows.uptoBulk]
  | _ => simp [Rows.uptoBulk]
theorem bulk_len : ∀ l : List (DataW H), l.length ≤ Rows.uptoBulkAll l
  | [] => by simp
  | d :: l => by
    have := bulk_len l
    have := bulk_pos d
    simp only [Rows.uptoBulkAll, List.length_cons]; omega
theorem bulk_flat : ∀ (es : List (DataW H)) (pss : List (List Int)), es.length = pss.length → (∀ (i : Nat) (bs : List Int), pss[i]? = some bs → bs = [] ∨ ∃ l s, es[i]? = some (.slice l s) ∧ l.length = bs.length) → pss.flatten.length ≤ Rows.uptoBulkAll es
  | [], [], _, _ => by simp
  | [], _ :: _, h, _ => by simp at h
  | _ :: _, [], h, _ => by simp at h
  | e :: es, bs :: pss, h, hp => by
    have ih := bulk_flat es pss (by simpa using h) (fun i b hi => by simpa using hp (i + 1) b (by simpa using hi))
    have h0 := hp 0 bs rfl
    have : bs.length ≤ Rows.uptoBulk e := by
      rcases h0 with rfl | ⟨l, s, he, hl⟩
      · simp
      · have e1 : e = .slice l s := by simpa using he
        subst e1
        have := bulk_len l
        simp only [Rows.uptoBulk]; omega
    simp only [List.flatten_cons, List.length_append, Rows.uptoBulkAll]
    omega
/-- So many bytes and parts at most. -/
theorem parts_small {d : DataW H} {pss : List (List Int)} (h : PartsData d pss) : pss.length ≤ Rows.uptoBulk d ∧ pss.flatten.length ≤ Rows.uptoBulk d := by
  rcases h with ⟨rfl, rfl⟩ | ⟨es, sp, rfl, hl, hp⟩
  · simp
  · have h1 := bulk_len es
    have h2 := bulk_flat es pss hl hp
    simp only [Rows.uptoBulk]
    omega
theorem small_at {ds : List (DataW H)} (h : Rows.uptoSmall H ds = true) {i : Nat} {d : DataW H} (hi : ds[i]? = some d) : Rows.uptoBulk d ≤ 1048576 := by
  have h1 := of_decide_eq_true h
  have h2 := bulk_mem ds i d hi
  omega
/-- So many numbers at most. -/
theorem ints_small {d : DataW H} {A : Option Addr} {c : Nat} (h : d = .nil ∧ A = none ∧ c = 0 ∨ ∃ es sp, d = .slice es sp ∧ es.length + sp.length = c) (hs : Rows.uptoBulk d ≤ 1048576) : c ≤ 1048576 := by
  rcases h with ⟨_, _, rfl⟩ | ⟨es, sp, rfl, hl⟩
  · omega
  · have h1 := bulk_len es
    have h2 := bulk_len sp
    simp only [Rows.uptoBulk] at hs
    omega
end
/-- Parts, for the walks. -/
theorem partsO_of {w : World} {A : Option Addr} {pss : List (List Int)} {vals : List Value} (hr : Rd w A pss.length vals)
    (h : ∀ (i : Nat) (bs : List Int), pss[i]? = some bs → ∃ A' c', vals[i]? = some (Value.slice A' bs.length c') ∧ Rd w A' bs.length (vb bs) ∧ IsBytes bs ∧ bs.length ≤ c') (hs : pss.flatten.length ≤ 140737488351232) : RdPartsO (fun _ => False) w A pss ∧ ∀ bs ∈ pss, IsBytes bs := by
  refine ⟨⟨vals, hr, (fun _ _ _ h => h), fun i bs hi => ?_⟩, fun bs hb => ?_⟩
  · obtain ⟨A', c', h1, h2, h3, h4⟩ := h i bs hi
    have := part_le pss i bs hi
    exact ⟨A', c', h1, h2, (fun _ _ _ h => h), h3, h4, by omega⟩
  · obtain ⟨i, hi⟩ := List.mem_iff_getElem?.1 hb
    obtain ⟨A', c', h1, h2, h3, h4⟩ := h i bs hi
    exact h3
end Go.Proofs.YtgblndddcbfdiaaDoor

