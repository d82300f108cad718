/- Texts. -/
import Derived.Test.YtplleficmkfniaaGreatDoorQ09
import Derived.Deep.LoopGhost
import Derived.Deep.CutRange
import Derived.Laws.Pointers
import Derived.Recover
import Derived.Deep.DeepCutAuto
set_option linter.unusedSimpArgs false
set_option maxRecDepth 100000
set_option maxHeartbeats 4000000
namespace Go.Proofs.YtplleficmkfniaaGreatDoor
open Go Go.RowKit Go.Aff Go.Json
theorem within_any (w : World) (n b d : Int) : Calls Tryz.prog 164 #[.agg #[.int .i64 n, .int .i64 b, .int .i64 d]] w fun e w' => e = .returned (.bool (decide (n ≤ 65536) && (decide (b ≤ 2097152) && decide (d ≤ 512)))) ∧ Keeps (fun _ => False) w w' := by
 have hb := Blk.new w 228 [.int .i64 n, .int .i64 b, .int .i64 d]
 have c0 := hb.cell 0
 have c1 := hb.cell 1
 have c2 := hb.cell 2
 have HK := H_ ((Keeps.refl (fun _ => False) w).alloc (.cells #[.int .i64 n, .int .i64 b, .int .i64 d] 228))
 clear hb
 by_cases h1 : n ≤ 65536
 ·by_cases h2 : b ≤ 2097152
  ·go_enter Tryz.func164, Tryz.ntmps164
   go_wp2
   go_ret
   exact ⟨by first | (simp [h1, h2]; done) | (simp [h1, h2]; omega), HK.out⟩
  ·go_enter Tryz.func164, Tryz.ntmps164
   go_wp2
   go_ret
   exact ⟨by first | (simp [h1, h2]; done) | (simp [h1, h2]; omega), HK.out⟩
 ·go_enter Tryz.func164, Tryz.ntmps164
  go_wp2
  go_ret
  exact ⟨by simp [h1]; omega, HK.out⟩
theorem refuse_ok (w : World) (k : Int) : Calls Tryz.prog 107 #[.bool true, .int .i64 k] w fun e w' => e = .returned (.tuple #[]) ∧ w' = w := by
 go_enter Tryz.func107, Tryz.ntmps107
 go_wp2
 go_end0
 exact ⟨rfl, rfl⟩
theorem str_empty (tx : ByteArray) : tx.toList.isEmpty = decide (tx.size = 0) := by
 rw [ByteArray.toList_eq, Bool.eq_iff_iff, decide_eq_true_iff, List.isEmpty_iff]
 constructor
 ·intro h
  exact congrArg List.length h
 ·intro h
  exact List.length_eq_zero_iff.1 h
def stepV (s : StepV) (A : Option Addr) (c : Nat) : List Value := [.int .i64 s.sort, .bool s.flag, .int .u64 s.bits, .string s.text, .int .i64 s.count, .slice A s.keys.length c]
theorem used_walk (w : World) (so : Int) (fl : Bool) (bi : Nat) (tx : ByteArray) (cn : Int) (A : Option Addr) (n c : Nat) (b1 b2 b3 e2 e3 e4 e5 e6 z te cz nz : Bool)
  (h1 : decide (1 ≤ so) = b1) (h2 : decide (so ≤ 6) = b2) (h3 : decide (0 ≤ cn) = b3) (k2 : (so == 2) = e2) (k3 : (so == 3) = e3) (k4 : (so == 4) = e4) (k5 : (so == 5) = e5) (k6 : (so == 6) = e6)
  (hz : ((bi : Int) == 0) = z) (he : tx.toList.isEmpty = te) (hc : (cn == 0) = cz) (hn : ((n : Int) == 0) = nz) :
  Calls Tryz.prog 108 #[.agg #[.int .i64 so, .bool fl, .int .u64 bi, .string tx, .int .i64 cn, .slice A n c]] w fun e w' => e = .returned (.bool (((b1 && b2 && b3) && ((!fl || e2) && (z || e3) && (te || e4))) && ((cz || e5) && (nz || e6)))) ∧ Keeps (fun _ => False) w w' := by
 have hb := Blk.new w 131 [.int .i64 so, .bool fl, .int .u64 bi, .string tx, .int .i64 cn, .slice A n c]
 have c0 := hb.cell 0
 have c1 := hb.cell 1
 have c2 := hb.cell 2
 have c3 := hb.cell 3
 have c4 := hb.cell 4
 have c5 := hb.cell 5
 have HK := H_ ((Keeps.refl (fun _ => False) w).alloc (.cells #[.int .i64 so, .bool fl, .int .u64 bi, .string tx, .int .i64 cn, .slice A n c] 131))
 clear hb
 go_enter Tryz.func108, Tryz.ntmps108
 go_upto_region 1 with fail
 go_cut [3] (fun t wx => t = .bool (b1 && b2 && b3) ∧ wx = w.alloc (.cells #[.int .i64 so, .bool fl, .int .u64 bi, .string tx, .int .i64 cn, .slice A n c] 131))
 case first =>
  rcases b1 with _ | _
  ·go_wp2
   go_meet
   exact ⟨rfl, rfl⟩
  ·rcases b2 with _ | _
   ·go_wp2
    go_meet
    exact ⟨rfl, rfl⟩
   ·go_wp2
    go_meet
    exact ⟨rfl, rfl⟩
 case rest =>
  obtain ⟨rfl, rfl⟩ := hcut
  obtain ⟨q1, hq1⟩ : ∃ q1, q1 = (b1 && b2 && b3) := ⟨_, rfl⟩
  rw [← hq1]
  have HQ1 := H_ hq1
  clear hq1 h1 h2 h3
  go_upto_region 2 with fail
  go_cut [3] (fun t wx => t = .bool (q1 && ((!fl || e2) && (z || e3) && (te || e4))) ∧ wx = w.alloc (.cells #[.int .i64 so, .bool fl, .int .u64 bi, .string tx, .int .i64 cn, .slice A n c] 131))
  case first =>
   clear k5 k6 hc hn
   rcases q1 with _ | _
   ·go_wp2
    go_meet
    exact ⟨rfl, rfl⟩
   ·have hfl : (!fl) = !fl := rfl
    rcases fl with _ | _
    ·rcases z with _ | _
     ·rcases e3 with _ | _
      ·go_wp2
       go_meet
       exact ⟨rfl, rfl⟩
      ·rcases te with _ | _ <;> rcases e4 with _ | _ <;> (go_wp2; go_meet; exact ⟨rfl, rfl⟩)
     ·rcases te with _ | _ <;> rcases e4 with _ | _ <;> (go_wp2; go_meet; exact ⟨rfl, rfl⟩)
    ·rcases e2 with _ | _
     ·go_wp2
      go_meet
      exact ⟨rfl, rfl⟩
     ·rcases z with _ | _
      ·rcases e3 with _ | _
       ·go_wp2
        go_meet
        exact ⟨rfl, rfl⟩
       ·rcases te with _ | _ <;> rcases e4 with _ | _ <;> (go_wp2; go_meet; exact ⟨rfl, rfl⟩)
      ·rcases te with _ | _ <;> rcases e4 with _ | _ <;> (go_wp2; go_meet; exact ⟨rfl, rfl⟩)
  case rest =>
   obtain ⟨rfl, rfl⟩ := hcut
   obtain ⟨q2, hq2⟩ : ∃ q2, q2 = (q1 && ((!fl || e2) && (z || e3) && (te || e4))) := ⟨_, rfl⟩
   rw [← hq2]
   have HQ2 := H_ hq2
   clear hq2 k2 k3 k4 hz he
   go_upto_region 3 with fail
   rcases q2 with _ | _
   ·go_wp2
    go_ret
    exact ⟨by rw [← HQ1.out, ← HQ2.out]; rfl, HK.out⟩
   ·rcases cz with _ | _
    ·rcases e5 with _ | _
     ·go_wp2
      go_ret
      exact ⟨by rw [← HQ1.out, ← HQ2.out]; rfl, HK.out⟩
     ·rcases nz with _ | _ <;> rcases e6 with _ | _ <;> (go_wp2; go_ret; exact ⟨by rw [← HQ1.out, ← HQ2.out]; rfl, HK.out⟩)
    ·rcases nz with _ | _ <;> rcases e6 with _ | _ <;> (go_wp2; go_ret; exact ⟨by rw [← HQ1.out, ← HQ2.out]; rfl, HK.out⟩)
theorem used_any (w : World) (s : StepV) (A : Option Addr) (c : Nat) : Calls Tryz.prog 108 #[.agg (stepV s A c).toArray] w fun e w' => e = .returned (.bool (usedF s)) ∧ Keeps (fun _ => False) w w' := by
 obtain ⟨so, fl, bi, tx, cn, ks⟩ := s
 have h := used_walk w so fl bi tx cn A ks.length c _ _ _ _ _ _ _ _ _ _ _ _ rfl rfl rfl rfl rfl rfl rfl rfl rfl (str_empty tx) rfl rfl
 refine h.mono fun e w' hh => ⟨hh.1.trans ?_, hh.2⟩
 congr 2
 have hi : ∀ a b : Int, (a == b) = decide (a = b) := fun a b => by rw [Bool.eq_iff_iff]; simp
 have h1 : decide ((bi : Int) = 0) = decide (bi = 0) := by simp
 have h2 : decide ((ks.length : Int) = 0) = decide (ks.length = 0) := by rw [Bool.eq_iff_iff]; simp
 simp only [usedF, hi, h1, h2, Bool.and_assoc]
def errP (k : Int) : Ending := .panicked [{ v := .iface 85 (.int .i64 k), recovered := false }]
theorem method_null (v : Value) (w : World) : (Go.method 529 217 v "affidavit/node.sized").run Tryz.prog w = .ok (301, v) w := by kernel_rfl
theorem methodS_null (v : Value) (w : World) : (Go.method 529 217 v "affidavit/node.sort").run Tryz.prog w = .ok (302, v) w := by kernel_rfl
theorem sized_null (w : World) : Calls Tryz.prog 301 #[.agg #[]] w fun e w' => e = .returned (.agg #[.int .i64 1, .int .i64 0, .int .i64 1]) ∧ Keeps (fun _ => False) w w' := by
 have hb := Blk.new (w.alloc (.cells #[] 217)) 228 [.int .i64 0, .int .i64 0, .int .i64 0]
 have f0 := hb.frozen 0
 have f1 := hb.frozen 1
 have f2 := hb.frozen 2
 have HR := Blk.new (w.alloc (.cells #[] 217)) 228 [.int .i64 1, .int .i64 0, .int .i64 1]
 rw [World.size_alloc] at HR
 replace HR := H_ HR
 have HK := H_ (((Keeps.refl (fun _ => False) w).alloc (.cells #[] 217)).alloc (.cells #[.int .i64 1, .int .i64 0, .int .i64 1] 228))
 clear hb
 go_enter Tryz.func301, Tryz.ntmps301
 go_wp2
 exact bodyPost_ret (results_blk rfl _ _ rfl HR.out Tryz.underlying228 rfl (by kernel_rfl)) rfl ⟨rfl, HK.out⟩
theorem sort_null (w : World) : Calls Tryz.prog 302 #[.agg #[]] w fun e w' => e = .returned (.int .i64 1) ∧ Keeps (fun _ => False) w w' := by
 have HK := H_ ((Keeps.refl (fun _ => False) w).alloc (.cells #[] 217))
 go_enter Tryz.func302, Tryz.ntmps302
 go_wp2
 go_ret
 exact ⟨rfl, HK.out⟩
theorem methodS_flag (v : Value) (w : World) : (Go.method 529 218 v "affidavit/node.sort").run Tryz.prog w = .ok (304, v) w := by kernel_rfl
theorem sort_flag (w : World) (b : Bool) : Calls Tryz.prog 304 #[.bool b] w fun e w' => e = .returned (.int .i64 2) ∧ Keeps (fun _ => False) w w' := by
 have HK := H_ ((Keeps.refl (fun _ => False) w))
 go_enter Tryz.func304, Tryz.ntmps304
 go_wp2
 go_ret
 exact ⟨rfl, HK.out⟩
theorem methodS_number (v : Value) (w : World) : (Go.method 529 223 v "affidavit/node.sort").run Tryz.prog w = .ok (306, v) w := by kernel_rfl
theorem sort_number (w : World) (b : Nat) : Calls Tryz.prog 306 #[.float .f64 b] w fun e w' => e = .returned (.int .i64 3) ∧ Keeps (fun _ => False) w w' := by
 have HK := H_ ((Keeps.refl (fun _ => False) w))
 go_enter Tryz.func306, Tryz.ntmps306
 go_wp2
 go_ret
 exact ⟨rfl, HK.out⟩
theorem methodS_text (v : Value) (w : World) : (Go.method 529 224 v "affidavit/node.sort").run Tryz.prog w = .ok (308, v) w := by kernel_rfl
theorem sort_text (w : World) (s : ByteArray) : Calls Tryz.prog 308 #[.string s] w fun e w' => e = .returned (.int .i64 4) ∧ Keeps (fun _ => False) w w' := by
 have HK := H_ ((Keeps.refl (fun _ => False) w))
 go_enter Tryz.func308, Tryz.ntmps308
 go_wp2
 go_ret
 exact ⟨rfl, HK.out⟩
def Bq (D : Nat → Prop) (p : Nat) (v : Value) (i : Nat) : Prop := D i ∧ i ≠ p ∧ v.ownBlock ≠ some i
structure RowAt (T : TypeId) (D : Nat → Prop) (w : World) (p : Nat) (A : Option Addr) (c : Nat) (vs : List Value) (P : List JV) : Prop where
 blk : Blk w p T [.slice A P.length c]
 own : w.ownsRow 0 93 1 (.slice A P.length c) P.length vs
 at_ : ∀ (i : Nat) (v : Value) (j : JV), vs[i]? = some v → P[i]? = some j → JAt (Bq D p (.slice A P.length c)) w v j
 ne : T ≠ 93
 new : ∀ i, w.heap.size ≤ i → D i
 inn : ∀ g, (Value.slice A P.length c).ownBlock = some g → D g ∧ p ≤ g
section
variable {T : TypeId} {D : Nat → Prop} {w w' : World} {p : Nat} {A : Option Addr} {c : Nat} {vs : List Value} {P : List JV}
theorem RowAt.len (h : RowAt T D w p A c vs P) : vs.length = P.length := by simpa using h.own.1
theorem RowAt.ne_own (h : RowAt T D w p A c vs P) : (Value.slice A P.length c).ownBlock ≠ some p := own_blk h.own h.blk (fun e => h.ne e.symm)
theorem RowAt.keep (h : RowAt T D w p A c vs P) {F : Nat → Prop} (hk : Keeps F w w') (hp : ¬ F p) (ho : ∀ g, (Value.slice A P.length c).ownBlock = some g → ¬ F g) (hD : ∀ i, D i → ¬ F i) : RowAt T D w' p A c vs P :=
 ⟨hk.blk h.blk hp, hk.own h.own ho, fun i v j hv hj => (h.at_ i v j hv hj).keep hk (fun i hi => hD i hi.1), h.ne, fun i hi => h.new i (Nat.le_trans hk.size hi), h.inn⟩
theorem RowAt.stay (h : RowAt T D w p A c vs P) (hk : Keeps (fun _ => False) w w') : RowAt T D w' p A c vs P := h.keep hk (fun h => h) (fun _ _ h => h) (fun _ _ h => h)
theorem RowAt.stored (h : RowAt T D w p A c vs P) {A' : Option Addr} {c' : Nat} {vs' : List Value} {P' : List JV} (hk : Keeps (fun i => (Value.slice A P.length c).ownBlock = some i) w w')
  (ho : w'.ownsRow 0 93 1 (.slice A' P'.length c') P'.length vs') (hu : (Value.slice A' P'.length c').ownBlock = (Value.slice A P.length c).ownBlock ∨ ∃ g, (Value.slice A' P'.length c').ownBlock = some g ∧ w.heap.size ≤ g)
  (hat : ∀ (i : Nat) (v : Value) (j : JV), vs'[i]? = some v → P'[i]? = some j → JAt (Bq D p (.slice A P.length c)) w v j) :
  RowAt T D (w'.setCell ⟨p, 0, none⟩ (.slice A' P'.length c')) p A' c' vs' P' ∧ Keeps (fun i => i = p ∨ (Value.slice A P.length c).ownBlock = some i) w (w'.setCell ⟨p, 0, none⟩ (.slice A' P'.length c')) := by
 have hb : Blk w' p T [.slice A P.length c] := hk.blk h.blk h.ne_own
 have hset : Keeps (fun i => i = p) w' (w'.setCell ⟨p, 0, none⟩ (.slice A' P'.length c')) := (Keeps.refl (fun i => i = p) w').setCell (p := ⟨p, 0, none⟩) (.inl rfl) _
 have hall : Keeps (fun i => i = p ∨ (Value.slice A P.length c).ownBlock = some i) w (w'.setCell ⟨p, 0, none⟩ (.slice A' P'.length c')) := (hk.mono (fun _ _ e => .inr e)).trans hset (fun _ _ e => .inl e)
 have hlt := h.blk.lt
 have nu : (Value.slice A' P'.length c').ownBlock ≠ some p := by
  rcases hu with e | ⟨g, e, hg⟩
  ·rw [e]; exact h.ne_own
  ·rw [e]; intro e'; injection e' with e'; omega
 refine ⟨⟨hb.set_ 0 _, hset.own ho (fun g hg e => by have e' : g = p := e; subst e'; exact nu hg), fun i v j hv hj => ?_, h.ne, fun i hi => h.new i (Nat.le_trans hall.size hi), fun g hg => ?_⟩, hall⟩
 refine ((hat i v j hv hj).mono (C := fun i => Bq D p (.slice A P.length c) i ∧ i < w.heap.size) (fun i hi hl => ⟨hi, hl⟩)).keep hall (fun i hi e => ?_) |>.mono (fun i hi _ => ⟨hi.1.1, hi.1.2.1, fun e => ?_⟩)
 ·rcases e with e | e
  ·exact hi.1.2.1 e
  ·exact hi.1.2.2 e
 ·rcases hu with e' | ⟨g, e', hg⟩
  ·exact hi.1.2.2 (e' ▸ e)
  ·rw [e'] at e; injection e with e; have := hi.2; omega
 ·rcases hu with e' | ⟨g', e', hg'⟩
  ·exact h.inn g (e' ▸ hg)
  ·rw [e'] at hg; injection hg with hg; exact ⟨h.new g (hg ▸ hg'), by omega⟩
end
theorem infoIt : (Tryz.prog.info? 93).map (fun i => (i.zero, i.size, i.bytes)) = some (some .nilIface, 1, 16) := by kernel_rfl
def RowPost (T : TypeId) (D : Nat → Prop) (w : World) (p : Nat) (v : Value) (P : List JV) (w' : World) : Prop := (∃ A' c' vs', RowAt T D w' p A' c' vs' P) ∧ Keeps (fun i => i = p ∨ v.ownBlock = some i) w w'
theorem put_null (T : TypeId) (D : Nat → Prop) (w : World) (p : Nat) (A : Option Addr) (c : Nat) (vs : List Value) (P : List JV) (h : RowAt T D w p A c vs P) (hn : P.length ≤ 1048576) 
  (hj : JAt (Bq D p (.slice A P.length c)) w (.iface 217 (.agg #[])) (JV.null)) (q : Bool) (hq : (decide (( 0 : Int) ≤ 2097152)) = q) :
  Calls Tryz.prog 109 #[.pointer (some ⟨p, 0, none⟩), .iface 217 (.agg #[])] w fun e w' => if q then e = .returned (.tuple #[]) ∧ RowPost T D w p (.slice A P.length c) (P ++ [JV.null]) w' else e = errP 3 ∧ Keeps (fun _ => False) w w' := by
 obtain ⟨n, hnn⟩ : ∃ n, n = P.length := ⟨_, rfl⟩
 have HH := H_ h
 have HJ := H_ hj
 have hown := h.own
 rw [← hnn] at hown hn ⊢
 have HN := H_ hnn
 have HO := H_ hown
 have HCL : Hid (∀ W, Keeps (fun _ => False) w W → W.cell? ⟨p, 0, none⟩ = some (.slice A n c) ∧ W.frozen? ⟨p, 0, none⟩ = false) := H_ fun W hW => by
  have := hW.blk h.blk (fun h => h)
  exact ⟨by rw [this.cell, hnn]; rfl, this.frozen 0⟩
 have HS := H_ fun W => sized_null W 
 have HW : Hid (∀ W, Calls Tryz.prog 164 #[.agg #[.int .i64 1, .int .i64 ( 0), .int .i64 1]] W fun e w' => e = .returned (.bool q) ∧ Keeps (fun _ => False) W w') := H_ fun W => by
  have := within_any W 1 ( 0 : Int) 1
  refine this.mono fun e w' hh => ⟨hh.1.trans ?_, hh.2⟩
  rw [← hq]
  simp
 have hm := method_null
 have HRW : Hid (∀ W A' c' W', Keeps (fun _ => False) w W → W'.ownsRow 0 93 1 (.slice A' (n + 1) c') (n + 1) (vs ++ [.iface 217 (.agg #[])]) → (W.alloc (.cells #[.iface 217 (.agg #[])] 93)).grownBy W' (Value.slice A n c).ownBlock →
   ((Value.slice A' (n + 1) c').ownBlock = (Value.slice A n c).ownBlock ∨ (Value.slice A' (n + 1) c').ownBlock = some (W.alloc (.cells #[.iface 217 (.agg #[])] 93)).heap.size) →
   (W'.cell? ⟨p, 0, none⟩ = some (.slice A n c) ∧ W'.frozen? ⟨p, 0, none⟩ = false) ∧ RowPost T D w p (.slice A n c) (P ++ [JV.null]) (W'.setCell ⟨p, 0, none⟩ (.slice A' (n + 1) c'))) := H_ fun W A' c' W' hW ho hg hb => by
  have hk : Keeps (fun i => (Value.slice A P.length c).ownBlock = some i) w W' := ((hW.mono (fun _ _ h => h.elim)).alloc _).grown hg (fun g e => .inl (by rw [← hnn]; exact e))
  have hbl := hk.blk h.blk h.ne_own
  refine ⟨⟨by rw [hbl.cell, hnn]; rfl, hbl.frozen 0⟩, ?_⟩
  have hle : (P ++ [JV.null]).length = n + 1 := by rw [List.length_append, hnn]; rfl
  have hs := h.stored (P' := P ++ [JV.null]) (A' := A') (c' := c') (vs' := vs ++ [.iface 217 (.agg #[])]) hk (by rw [hle]; exact ho) (by
   rw [hle, ← hnn]
   rcases hb with e | e
   ·exact .inl e
   ·refine .inr ⟨_, e, ?_⟩
    rw [World.size_alloc]
    have := hW.size
    omega) (fun i u j hv hj' => by
   rw [List.getElem?_append] at hv hj'
   by_cases hi : i < P.length
   ·rw [if_pos (by rw [h.len]; exact hi)] at hv
    rw [if_pos hi] at hj'
    exact h.at_ i u j hv hj'
   ·rw [if_neg (by rw [h.len]; exact hi)] at hv
    rw [if_neg hi] at hj'
    have hz : i - P.length = 0 := by
     rcases Nat.eq_zero_or_pos (i - P.length) with e | e
     ·exact e
     ·rw [List.getElem?_eq_none (by simp; omega)] at hj'; cases hj'
    rw [h.len, hz] at hv
    rw [hz] at hj'
    injection hv with hv
    injection hj' with hj'
    subst hv hj'
    exact hj)
  rw [hle] at hs
  refine ⟨⟨A', c', _, hs.1⟩, ?_⟩
  have h2 := hs.2
  rw [← hnn] at h2
  exact h2
 clear h hj hown hnn hq
 rcases q with _ | _
 ·go_enter Tryz.func109, Tryz.ntmps109
  go_wp2_with (first
   | (go_at_call 301; refine (HS.out _).mono ?_; rintro e w1 ⟨rfl, hk1⟩; have HK1 := H_ hk1; clear hk1)
   | (go_at_call 164; refine (HW.out _).mono ?_; rintro e w2 ⟨rfl, hk2⟩; have HK2 := H_ (HK1.out.trans hk2 (fun _ _ h => h)); clear hk2))
  exact ⟨rfl, rfl, HK2.out⟩
 ·go_enter Tryz.func109, Tryz.ntmps109
  go_wp2_with (first
   | (go_at_call 301; refine (HS.out _).mono ?_; rintro e w1 ⟨rfl, hk1⟩; have HK1 := H_ hk1; clear hk1)
   | (go_at_call 164; refine (HW.out _).mono ?_; rintro e w2 ⟨rfl, hk2⟩; have HK2 := H_ (HK1.out.trans hk2 (fun _ _ h => h)); obtain ⟨c0, f0⟩ := HCL.out _ HK2.out; clear hk2)
   | (at_builtin; refine wpList_append_rd _ rfl (.tmp 13) (.tmp 15) 127 rfl 93 .nilIface 16 Tryz.underlying127 infoIt rfl _ n vs rfl ((HK2.out.alloc (.cells #[.iface 217 (.agg #[])] 93)).own HO.out (fun _ _ h => h)) _ 1 1 [.iface 217 (.agg #[])] rfl (Rd.of_blk (Blk.new w2 93 [.iface 217 (.agg #[])]) rfl) (by intro y hy; rw [List.mem_singleton.1 hy]; rfl) (by unfold maxLen; omega) (by omega) ?_; intro A' c' w3 hown hg hb; obtain ⟨⟨c0, f0⟩, hend⟩ := HRW.out _ _ _ _ HK2.out hown hg hb; have HEND := H_ hend; clear hown hg hb hend))
  go_end0
  exact ⟨rfl, HEND.out⟩
end Go.Proofs.YtplleficmkfniaaGreatDoor
