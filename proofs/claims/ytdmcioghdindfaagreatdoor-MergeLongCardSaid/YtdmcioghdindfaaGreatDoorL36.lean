/- Texts. -/
import Derived.Test.YtdmcioghdindfaaGreatDoorL35
import Derived.Laws.CopyOwn
set_option linter.unusedSimpArgs false
set_option maxRecDepth 100000
set_option maxHeartbeats 4000000
namespace Go.Proofs.YtdmcioghdindfaaGreatDoor
open Go Go.RowKit Go.Aff Go.Json Go.Rng
attribute [local go_sem] Oper.semAt_some
theorem splice_make {α : Type} (L : List α) (z : α) : Go.splice (List.replicate (L.length + 1) z) 0 L = L ++ [z] := by
 unfold Go.splice
 rw [List.take_zero, List.nil_append, Nat.zero_add, List.drop_replicate, show L.length + 1 - L.length = 1 by omega]
 rfl
theorem deeper_any (w : World) (A : Option Addr) (n c : Nat) (ts : List ByteArray) (hts : ts.length = n) (hr : Rd w A n (ts.map .string)) (key : ByteArray) (hn : n ≤ 65536) :
  Calls Tryz.prog 34 #[.slice A n c, .string key] w fun e w' => ∃ A', e = .returned (.slice A' (n + 1) (n + 1)) ∧ Rd w' A' (n + 1) ((ts ++ [key]).map .string) ∧ InB (fun i => w.heap.size ≤ i) A' (n + 1) ∧ Keeps (fun _ => False) w w' := by
 have HR := H_ (And.intro hr hts)
 have HGI : Hid (goInt (ts.map Value.string).length = .int .i64 (n : Int)) := H_ (by rw [List.length_map, hts]; rfl)
 have hn65 : (n : Int) ≤ 65536 := by omega
 obtain ⟨g, hg⟩ : ∃ g, g = w.heap.size := ⟨_, rfl⟩
 have HG := H_ hg
 clear hr hts hn hg
 go_enter Tryz.func34, Tryz.ntmps34
 go_upto_region 2 with (refine wpList_makeN w rfl _ _ 29 rfl 9 (.string .empty) 16 Tryz.underlying29 (by kernel_rfl) rfl .i64 .i64 _ _ (n + 1) rfl rfl (by omega) (by omega) (by omega) (by unfold maxLen; omega) ?_; intro w2 ho2 hg2; rw [← HG.out] at ho2; have HO2 := H_ (And.intro ho2 ((Keeps.of_grown hg2).mono (G := fun _ => False) fun i _ e => by cases e)); clear ho2 hg2)
 rw [← HG.out]
 have HG2 : Hid (w2.heap[g]? = some (.cells (List.replicate (n + 1) (Value.string .empty)).toArray 9 (0, 0)) ∧ w.heap.size ≤ g ∧ Below w.heap.size w w2) := H_ (by
  obtain ⟨⟨hl, h⟩, hk⟩ := HO2.out
  refine ⟨?_, by rw [HG.out]; exact Nat.le_refl _, ⟨hk.os, hk.tape, hk.output, hk.size, fun i hi => hk.block i hi (fun h => h)⟩⟩
  rcases h with ⟨h, _⟩ | ⟨g', cap, cur, hv, _, hh, _, _, hcs, htk⟩
  ·cases h
  injection hv with e1 e2 e3
  injection e1 with e1
  injection e1 with e1 _
  subst e1 e3
  rw [hh]
  have : cur.toList = List.replicate (n + 1) (Value.string .empty) := by
   rw [← htk, List.take_of_length_le (by simp; omega)]
  rw [← this])
 have HSRC : Hid (∀ v ∈ ts.map Value.string, v.oneCell' = true) := H_ fun v hv => by
  obtain ⟨x, _, rfl⟩ := List.mem_map.1 hv; rfl
 go_wp2_with ((with_reducible show wpList _ _ _ (⟨some 13, _, _, _, _, _⟩ :: _) _ _); refine wpList_copy_splice rfl (.tmp 11) (.tmp 12) 29 29 rfl 9 Tryz.underlying29 (by kernel_rfl) (some ⟨g, 0, none⟩) A (n + 1) (n + 1) n c rfl rfl g 0 (List.replicate (n + 1) (Value.string .empty)) 9 HG2.out.1 (ts.map .string) (by rw [List.length_map, HR.out.2]; exact (Nat.min_eq_left (by omega)).symm) (fun h0 => ⟨rfl, by
   obtain ⟨g1, o1, hA, hc⟩ := (HR.out.1.keep HO2.out.2 (fun _ _ _ h => h)).2 (by rw [List.length_map, HR.out.2] at h0; exact h0)
   refine ⟨⟨g1, o1, none⟩, hA, fun j v hj => ?_⟩
   have hjl := (List.getElem?_eq_some_iff.1 hj).1
   rw [List.length_map, HR.out.2] at hjl
   rw [← hj, add_at]
   exact hc j hjl⟩) (by rw [List.length_map, HR.out.2, List.length_replicate]; omega) HSRC.out w.heap.size w HG2.out.2.2 HG2.out.2.1 ?_; intro w3 hg3 hb3; rw [HGI.out]; have hbk : Blk w3 g 9 (ts.map .string ++ [.string .empty]) := (by
    have h4 := hg3.out
    have h5 := splice_make (ts.map Value.string) (Value.string .empty)
    rw [List.length_map, HR.out.2] at h5
    rw [h5] at h4
    exact h4); have HB3 := H_ (And.intro hbk hb3); have cn : w3.cell? ⟨g, n, none⟩ = some (.string .empty) := (by rw [hbk.cell n, List.getElem?_append_right (by rw [List.length_map, HR.out.2]; exact Nat.le_refl _), List.length_map, HR.out.2, Nat.sub_self]; rfl); have fn := hbk.frozen n; clear hbk hb3 hg3)
 go_ret
 have hset := (HB3.out.1.set_ n (Value.string key))
 have hl : (ts.map Value.string ++ [Value.string .empty]).set n (Value.string key) = (ts ++ [key]).map .string := by
  rw [List.set_append_right _ _ (by rw [List.length_map, HR.out.2]; exact Nat.le_refl _), List.length_map, HR.out.2, Nat.sub_self, List.map_append]
  rfl
 rw [hl] at hset
 refine ⟨_, rfl, ⟨by rw [List.length_map, List.length_append, HR.out.2]; rfl, fun _ => ⟨g, 0, rfl, fun j _ => by rw [Nat.zero_add]; exact hset.cell j⟩⟩, fun _ a e => by injection e with e; rw [← e]; exact HG2.out.2.1, ?_⟩
 refine (Below.keeps0 HB3.out.2).trans ((Keeps.refl (fun i => i = g) w3).setCell (p := ⟨g, n, none⟩) (.inl rfl) _) fun i hi e => ?_
 have := HG2.out.2.1
 omega
theorem null_within : JV.null.within := ⟨by simp [JV.nodes], by simp [JV.bytes], by simp [JV.deep]⟩
theorem doF_null : doF [] (step0 1) = .inr [.null] := by
 have hm : ∀ l, mkV (step0 1) l = .null := fun _ => rfl
 unfold doF
 rw [if_neg (by simp [usedF, step0]), if_neg (by show ¬ ((1 : Int) = 3 ∧ _); simp), if_neg (by show ¬ (rightS ByteArray.empty = false ∨ [].all rightS = false); rw [show rightS ByteArray.empty = true from by decide]; simp), if_neg (by show ¬ ¬ ([] : List ByteArray).Nodup; simp), if_neg (by show ¬ ([] : List JV).length < 0 + 0; simp), hm, if_neg (fun h => h null_within)]
 rfl
end Go.Proofs.YtdmcioghdindfaaGreatDoor
namespace Go.Json
def overAll {β : Type} (f : ByteArray → β ⊕ Option JV) : List ByteArray → β ⊕ List (ByteArray × JV)
 | [] => .inr []
 | key :: cs => match f key with
  | .inl b => .inl b
  | .inr o => match overAll f cs with
   | .inl b => .inl b
   | .inr ms => .inr ((o.map fun x => (key, x)).toList ++ ms)
noncomputable def overAt (x : Option JV) (y : Option (JV × (Option JV → List ByteArray → List ByteArray ⊕ JV))) (way : List ByteArray) : List ByteArray ⊕ Option JV := open Classical in match y with
 | none => .inr (some .null)
 | some (y, f) => if x = some y then .inr none else if y.sort = 1 then .inl way else match f x way with
  | .inl b => .inl b
  | .inr z => .inr (some z)
noncomputable def JV.over : JV → Option JV → List ByteArray → List ByteArray ⊕ JV
 | .obj kw lw => fun v way =>
  let L := lw.map fun y => (y, y.over)
  match overAll (fun key => overAt (atK (mem2 v).1 (mem2 v).2 key) (atK kw L key) (way ++ [key])) (unionK ((mem2 v).1 ++ kw)) with
  | .inl b => .inl b
  | .inr ms => .inr (.obj (ms.map (·.1)) (ms.map (·.2)))
 | w => fun _ _ => .inr w
section
variable {kw : List ByteArray} {lw : List JV} {v : Option JV} {way : List ByteArray} {key : ByteArray}
end
end Go.Json
