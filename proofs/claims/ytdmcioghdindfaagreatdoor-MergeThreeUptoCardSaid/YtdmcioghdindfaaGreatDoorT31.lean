/- Texts. -/
import Derived.Test.YtdmcioghdindfaaGreatDoorT30
set_option linter.unusedSimpArgs false
set_option maxRecDepth 100000
set_option maxHeartbeats 4000000
namespace Go.Proofs.YtdmcioghdindfaaGreatDoor
open Go Go.RowKit Go.Aff Go.Json Go.Rng
attribute [local go_sem] Oper.semAt_some
end Go.Proofs.YtdmcioghdindfaaGreatDoor
namespace Go.Json
def overAll {β : Type} (f : ByteArray → β ⊕ Option JV) : List ByteArray → β ⊕ List (ByteArray × JV)
 | [] => .inr []
 | key :: cs => match f key with
  | .inl b => .inl b
  | .inr o => match overAll f cs with
   | .inl b => .inl b
   | .inr ms => .inr ((o.map fun x => (key, x)).toList ++ ms)
noncomputable def overAt (x : Option JV) (y : Option (JV × (Option JV → List ByteArray → List ByteArray ⊕ JV))) (way : List ByteArray) : List ByteArray ⊕ Option JV := open Classical in match y with
 | none => .inr (some .null)
 | some (y, f) => if x = some y then .inr none else if y.sort = 1 then .inl way else match f x way with
  | .inl b => .inl b
  | .inr z => .inr (some z)
noncomputable def JV.over : JV → Option JV → List ByteArray → List ByteArray ⊕ JV
 | .obj kw lw => fun v way =>
  let L := lw.map fun y => (y, y.over)
  match overAll (fun key => overAt (atK (mem2 v).1 (mem2 v).2 key) (atK kw L key) (way ++ [key])) (unionK ((mem2 v).1 ++ kw)) with
  | .inl b => .inl b
  | .inr ms => .inr (.obj (ms.map (·.1)) (ms.map (·.2)))
 | w => fun _ _ => .inr w
section
variable {kw : List ByteArray} {lw : List JV} {v : Option JV} {way : List ByteArray} {key : ByteArray}
end
end Go.Json
namespace Go.Proofs.YtdmcioghdindfaaGreatDoor
open Go Go.RowKit Go.Aff Go.Json Go.Rng
attribute [local go_sem] Oper.semAt_some
def KeysP (ks : List ByteArray) : Prop := ∀ s ∈ ks, rightS s = true ∧ s.size ≤ 2097152
theorem slim_of : ∀ (j : JV), JOk j → j.nodes ≤ 1048576 → Slim j := by
 refine JV.by_parts fun j ih hj hn => ?_
 have h3 := items_nodes j
 have h4 := hj.form.1
 refine .mk j (by omega) (by omega) fun x hx => ih x hx (hj.form.2.2.2.2.2 x hx) ?_
 have h5 := sumN_mem (List.mem_map.2 ⟨x, hx, rfl⟩ : x.nodes ∈ j.items.map fun x => x.nodes)
 rw [JV.nodes_eq] at hn
 omega
theorem keysP_of {j : JV} (h1 : j.bytes ≤ 2097152) (h2 : JOk j) : KeysP j.keys := fun s hs => ⟨h2.form.2.2.2.1 s hs, by
 have h3 := sumN_mem (List.mem_map.2 ⟨s, hs, rfl⟩ : s.size ∈ j.keys.map fun k => k.size)
 have h4 := own_eq j
 have h5 := JV.bytes_eq j
 omega⟩
end Go.Proofs.YtdmcioghdindfaaGreatDoor
