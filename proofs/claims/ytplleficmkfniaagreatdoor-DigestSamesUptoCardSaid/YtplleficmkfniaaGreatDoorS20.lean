/- Texts. -/
import Derived.Test.YtplleficmkfniaaGreatDoorS19
set_option linter.unusedSimpArgs false
set_option maxRecDepth 100000
set_option maxHeartbeats 4000000
namespace Go.Proofs.YtplleficmkfniaaGreatDoor
open Go Go.RowKit Go.Aff Go.Json
theorem Boxed.step {w W : World} {b : Nat} {s : StepV} {B : Option Addr} {d : Nat} {SV : List Value} (h : Boxed w W b 174 SV) (hs : SV = stepV s B d) : StepCells W b SV s B d := by
 have hb := h.blk
 rw [hs] at hb
 exact ⟨hb.cell 0, hb.cell 1, hb.cell 2, hb.cell 3, hb.cell 4, hb.cell 5⟩
structure DoM (w W : World) (b p : Nat) (SV VV : List Value) : Prop where
 box : Boxed w W b 174 SV
 blk : Blk W p 80 VV
 lo : w.heap.size ≤ b
 lt : b < p
section
variable {w W W' : World} {b p : Nat} {SV VV : List Value}
theorem DoM.stay (h : DoM w W b p SV VV) (hk : Keeps (fun _ => False) W W') : DoM w W' b p SV VV := ⟨h.box.stay hk, hk.blk h.blk (fun h => h), h.lo, h.lt⟩
theorem DoM.set (h : DoM w W b p SV VV) (i : Nat) (v : Value) : DoM w (W.setCell ⟨p, i, none⟩ v) b p SV (VV.set i v) := by
 have hk : Keeps (fun j => j = p) W (W.setCell ⟨p, i, none⟩ v) := (Keeps.refl (fun j => j = p) W).setCell (p := ⟨p, i, none⟩) (.inl rfl) v
 have := h.lo
 have := h.lt
 exact ⟨⟨h.box.keep.trans hk (fun j hj e => by omega), hk.blk h.box.blk (by omega)⟩, h.blk.set_ i v, h.lo, h.lt⟩
theorem DoM.six (h : DoM w W b p SV VV) {z0 z1 z2 z3 z4 z5 : Value} (hz : VV = [z0, z1, z2, z3, z4, z5]) (v0 v1 v2 v3 v4 v5 : Value) : DoM w (sixSet W p v0 v1 v2 v3 v4 v5) b p SV [v0, v1, v2, v3, v4, v5] := by
 subst hz
 exact (((((h.set 0 v0).set 1 v1).set 2 v2).set 3 v3).set 4 v4).set 5 v5
theorem DoM.made (w : World) {w4 : World} (h : Boxed w w4 b 174 SV) (hlo : w.heap.size ≤ b) (VV : List Value) : DoM w (w4.alloc (.cells VV.toArray 80)) b w4.heap.size SV VV :=
 ⟨h.stay ((Keeps.refl _ w4).alloc _), Blk.new w4 _ VV, hlo, h.blk.lt⟩
end
end Go.Proofs.YtplleficmkfniaaGreatDoor
