/- Texts. -/
import Derived.Test.YtdmcioghdindfaaGreatDoorL23
set_option linter.unusedSimpArgs false
set_option maxRecDepth 100000
set_option maxHeartbeats 4000000
namespace Go.Proofs.YtdmcioghdindfaaGreatDoor
open Go Go.RowKit Go.Aff Go.Json
theorem flat_cons6 {sss : List (List Value)} {SC : List Value} : (sss ++ [SC]).flatten = sss.flatten ++ SC := by rw [List.flatten_append]; simp
theorem SList.monoW {D C : Nat → Prop} {w : World} {sss : List (List Value)} {l : List StepV} (h : SList D w sss l) (hC : ∀ i, D i → i < w.heap.size → C i) : SList C w sss l := ⟨h.1, fun i cs s h1 h2 => by
 obtain ⟨B, d, e, hr, hB⟩ := h.2 i cs s h1 h2
 exact ⟨B, d, e, hr, Rd.inB hr hB hC⟩⟩
structure RowSt (w0 w : World) (A : Option Addr) (q c : Nat) (sss : List (List Value)) (l : List StepV) : Prop where
 own : MineS 6 w0 w 53 A q c sss.flatten
 lst : SList (Br w0 (.slice A q c)) w sss l
 len : l.length = q
section
variable {w0 w w' : World} {A : Option Addr} {q c : Nat} {sss : List (List Value)} {l : List StepV}
theorem RowSt.nil (w : World) : RowSt w w none 0 0 [] [] := ⟨MineS.nil 6 w _, SList.nil _ w, rfl⟩
theorem RowSt.stay (h : RowSt w0 w A q c sss l) (hk : Keeps (fun _ => False) w w') : RowSt w0 w' A q c sss l := ⟨h.own.keep hk, h.lst.stay hk, h.len⟩
theorem RowSt.grown (h : RowSt w0 w A q c sss l) {W : World} (hW : Keeps (fun _ => False) w W) {A' : Option Addr} {c' : Nat} {s : StepV} {B : Option Addr} {d : Nat}
  (ho : w'.ownsRow 0 53 6 (.slice A' (q + 1) c') (q + 1) (sss.flatten ++ stepV s B d)) (hg : W.grownBy w' (Value.slice A q c).ownBlock)
  (hb : (Value.slice A' (q + 1) c').ownBlock = (Value.slice A q c).ownBlock ∨ (Value.slice A' (q + 1) c').ownBlock = some W.heap.size)
  (hr : Rd w B s.keys.length (s.keys.map .string)) (hB : InB (Br w0 (.slice A q c)) B s.keys.length) : RowSt w0 w' A' (q + 1) c' (sss ++ [stepV s B d]) (l ++ [s]) := by
 refine ⟨?_, ?_, by rw [List.length_append, h.len]; rfl⟩
 ·rw [flat_cons6]
  exact (h.own.keep hW).grown ho hg hb
 have hall : Keeps (fun i => (Value.slice A q c).ownBlock = some i) w w' := (hW.mono (fun _ _ h => h.elim)).trans (Keeps.of_grown hg) (fun i _ e => e)
 have hlst : SList (Br w0 (.slice A q c)) w (sss ++ [stepV s B d]) (l ++ [s]) := h.lst.app (SList.one hr hB)
 refine ((hlst.monoW (C := fun i => Br w0 (.slice A q c) i ∧ i < w.heap.size) fun i hi hlt => ⟨hi, hlt⟩).keep hall fun i hi e => hi.1.2 e).mono fun i hi => ⟨hi.1.1, fun e => ?_⟩
 rcases hb with e1 | e1
 ·rw [e1] at e; exact hi.1.2 e
 rw [e1] at e
 injection e with e
 have := hW.size
 have := hi.2
 omega
end
def SwR (j : JV) (p : Nat) (w wx : World) : Prop := ∃ B d, Keeps (fun _ => False) w wx ∧ Blk wx p 53 (stepV j.last B d) ∧ Rd wx B j.keys.length (j.keys.map .string) ∧ InB (fun i => w.heap.size ≤ i) B j.keys.length
theorem SwR.leaf {j : JV} {p : Nat} {w wx : World} (hk : Keeps (fun _ => False) w wx) (hb : Blk wx p 53 (stepV j.last none 0)) (h : j.keys = []) : SwR j p w wx :=
 ⟨none, 0, hk, hb, by rw [h]; exact Rd.nil _ _, by rw [h]; exact InB.zero _ _⟩
def noneF (ps : List (Option Addr)) : Value := if ps.any (·.isNone) then errE 1 else .nilIface
theorem none_any (w : World) (A : Option Addr) (n c : Nat) (ps : List (Option Addr)) (hr : Rd w A n (ps.map .pointer)) (hn : n ≤ 1000000) :
  Calls Tryz.prog 27 #[.slice A n c] w fun e w' => e = .returned (noneF ps) ∧ w' = w := by
 have HL : Hid (ps.length = n) := H_ (by simpa using hr.1)
 have HR : Hid (∀ j, j < n → ∃ g o p, A = some ⟨g, o, none⟩ ∧ ps[j]? = some p ∧ w.cell? ⟨g, o + j, none⟩ = some (.pointer p)) := H_ fun j hj => by
  obtain ⟨g, o, e, hc⟩ := hr.2 (by omega)
  obtain ⟨p, hp⟩ : ∃ p, ps[j]? = some p := ⟨_, List.getElem?_eq_getElem (by have := HL.out; omega)⟩
  refine ⟨g, o, p, e, hp, ?_⟩
  rw [hc j hj, List.getElem?_map, hp]
  rfl
 clear hr
 go_enter Tryz.func27, Tryz.ntmps27
 go_upto_block 0 with fail
 go_wp2
 go_loopg [7] n (fun g2 i w3 => ∃ j, j ≤ n ∧ i = .int .i64 j ∧ g2 = n - j ∧ Hid (w3 = w ∧ (ps.take j).any (·.isNone) = false))
 case atStart => exact ⟨0, by omega, rfl, rfl, H_ ⟨rfl, by simp⟩⟩
 case round =>
  obtain ⟨j, hj, rfl, hg2, HA⟩ := hrel
  have HG2 := H_ hg2
  clear hg2
  obtain ⟨rfl, _⟩ := HA.out
  by_cases hlt : j < n
  ·obtain ⟨g, o, p, hA, hp, hcl⟩ := HR.out j hlt
   subst hA
   have HP := H_ hp
   clear hp
   cases p with
   | none =>
    have HN : Hid (noneF ps = errE 1) := H_ (by
     unfold noneF
     rw [if_pos]
     rw [List.any_eq_true]
     exact ⟨none, List.mem_of_getElem? HP.out, rfl⟩)
    go_wp2
    go_ret
    rw [HN.out]
    exact ⟨rfl, rfl⟩
   | some p =>
    have HT : Hid ((ps.take (j + 1)).any (·.isNone) = false) := H_ (by
     rw [List.take_add_one, HP.out, List.any_append, HA.out.2]
     rfl)
    go_wp2
    go_roundg (n - (j + 1))
    case measure => rw [HG2.out]; omega
    case rel => exact ⟨j + 1, by omega, by go_num, rfl, H_ ⟨rfl, HT.out⟩⟩
  obtain rfl : j = n := by omega
  have HN : Hid (noneF ps = .nilIface) := H_ (by
   unfold noneF
   have h := HA.out.2
   rw [List.take_of_length_le (by rw [HL.out]; exact Nat.le_refl _)] at h
   rw [h]
   rfl)
  go_wp2
  go_ret
  rw [HN.out]
  exact ⟨rfl, rfl⟩
theorem root_any (w : World) (q : Nat) (T : TypeId) (x : Value) (hb : Blk w q 110 [.iface T x]) :
  Calls Tryz.prog 38 #[.pointer (some ⟨q, 0, none⟩)] w fun e w' => e = .returned (.agg #[.iface T x]) ∧ Keeps (fun _ => False) w w' := by
 have hb1 := hb.alloc (.cells #[.nilIface] 81)
 have c0 := hb1.cell 0
 have f0 := (Blk.new w 81 [.nilIface]).frozen 0
 have HR := H_ (Blk.new w 81 [.iface T x])
 have HK := H_ ((Keeps.refl (fun _ => False) w).alloc (.cells #[.iface T x] 81))
 clear hb hb1
 go_enter Tryz.func38, Tryz.ntmps38
 go_wp2
 exact bodyPost_ret (results_blk rfl _ _ rfl HR.out Tryz.underlying81 rfl (by kernel_rfl)) rfl ⟨rfl, HK.out⟩
end Go.Proofs.YtdmcioghdindfaaGreatDoor
namespace Go.Aff
open Go Go.RowKit
theorem step_store_whole {P : Program} {Q : Exit → Act → World → Prop} {K : Act → World → Prop} {ops : Array Oper} {a : Act} {w : World} {o : Oper} (hgd : o.guard = none) (ty : TypeId) (x v : Operand) (ho : o.op = .store ty x v)
  {g : Nat} {t : TypeId} {cs : List Value} (vs : List Value) (hx : a.eval x = .pointer (some ⟨g, 0, none⟩)) (hv : a.eval v = .agg vs.toArray) (hg : Blk w g t cs) (hl : cs.length = vs.length) (hi : (P.info? ty).map (·.size) = some vs.length) (h1 : ∀ v ∈ vs, v.oneCell' = true)
  (h : K (a.put o.dst undef) (w.setRow g vs.toArray)) : if Region.wanted o (yielded ops a.tmps) = true then Oper.wp P o a w K Q else K (a.put o.dst undef) w := by
 have hw : Region.wanted o (yielded ops a.tmps) = true := by simp [Region.wanted, hgd]
 rw [if_pos hw]
 unfold Oper.wp execOp
 simp only [ho, hx, hv, Instr.storeAt, Instr.sureAddr, Sem.run_bind, Sem.run_pure, Result.andThen_ok, run_storeVar_at ty 0 vs hg (by omega) hi h1]
 rw [splice_all _ _ hl]
 exact h
end Go.Aff
namespace Go.Proofs.YtdmcioghdindfaaGreatDoor
open Go Go.RowKit Go.Aff Go.Json
end Go.Proofs.YtdmcioghdindfaaGreatDoor
