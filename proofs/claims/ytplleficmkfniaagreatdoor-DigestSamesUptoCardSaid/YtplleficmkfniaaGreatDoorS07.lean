/- Texts. -/
import Derived.Test.YtplleficmkfniaaGreatDoorS06
set_option linter.unusedSimpArgs false
set_option maxRecDepth 100000
set_option maxHeartbeats 4000000
namespace Go.Proofs.YtplleficmkfniaaGreatDoor
open Go Go.RowKit Go.Aff Go.Json
def errP (k : Int) : Ending := .panicked [{ v := .iface 85 (.int .i64 k), recovered := false }]
theorem refuse_no (w : World) (k : Int) : Calls Tryz.prog 107 #[.bool false, .int .i64 k] w fun e w' => e = errP k ∧ w' = w := by
 unfold errP
 go_enter Tryz.func107, Tryz.ntmps107
 go_wp2
 exact ⟨rfl, rfl, rfl⟩
theorem method_null (v : Value) (w : World) : (Go.method 529 217 v "affidavit/node.sized").run Tryz.prog w = .ok (301, v) w := by kernel_rfl
theorem methodS_null (v : Value) (w : World) : (Go.method 529 217 v "affidavit/node.sort").run Tryz.prog w = .ok (302, v) w := by kernel_rfl
theorem sized_null (w : World) : Calls Tryz.prog 301 #[.agg #[]] w fun e w' => e = .returned (.agg #[.int .i64 1, .int .i64 0, .int .i64 1]) ∧ Keeps (fun _ => False) w w' := by
 have hb := Blk.new (w.alloc (.cells #[] 217)) 228 [.int .i64 0, .int .i64 0, .int .i64 0]
 have f0 := hb.frozen 0
 have f1 := hb.frozen 1
 have f2 := hb.frozen 2
 have HR := Blk.new (w.alloc (.cells #[] 217)) 228 [.int .i64 1, .int .i64 0, .int .i64 1]
 rw [World.size_alloc] at HR
 replace HR := H_ HR
 have HK := H_ (((Keeps.refl (fun _ => False) w).alloc (.cells #[] 217)).alloc (.cells #[.int .i64 1, .int .i64 0, .int .i64 1] 228))
 clear hb
 go_enter Tryz.func301, Tryz.ntmps301
 go_wp2
 exact bodyPost_ret (results_blk rfl _ _ rfl HR.out Tryz.underlying228 rfl (by kernel_rfl)) rfl ⟨rfl, HK.out⟩
theorem sort_null (w : World) : Calls Tryz.prog 302 #[.agg #[]] w fun e w' => e = .returned (.int .i64 1) ∧ Keeps (fun _ => False) w w' := by
 have HK := H_ ((Keeps.refl (fun _ => False) w).alloc (.cells #[] 217))
 go_enter Tryz.func302, Tryz.ntmps302
 go_wp2
 go_ret
 exact ⟨rfl, HK.out⟩
theorem method_flag (v : Value) (w : World) : (Go.method 529 218 v "affidavit/node.sized").run Tryz.prog w = .ok (303, v) w := by kernel_rfl
theorem methodS_flag (v : Value) (w : World) : (Go.method 529 218 v "affidavit/node.sort").run Tryz.prog w = .ok (304, v) w := by kernel_rfl
theorem sized_flag (w : World) (b : Bool) : Calls Tryz.prog 303 #[.bool b] w fun e w' => e = .returned (.agg #[.int .i64 1, .int .i64 0, .int .i64 1]) ∧ Keeps (fun _ => False) w w' := by
 have hb := Blk.new (w) 228 [.int .i64 0, .int .i64 0, .int .i64 0]
 have f0 := hb.frozen 0
 have f1 := hb.frozen 1
 have f2 := hb.frozen 2
 have HR := Blk.new (w) 228 [.int .i64 1, .int .i64 0, .int .i64 1]
 replace HR := H_ HR
 have HK := H_ (((Keeps.refl (fun _ => False) w)).alloc (.cells #[.int .i64 1, .int .i64 0, .int .i64 1] 228))
 clear hb
 go_enter Tryz.func303, Tryz.ntmps303
 go_wp2
 exact bodyPost_ret (results_blk rfl _ _ rfl HR.out Tryz.underlying228 rfl (by kernel_rfl)) rfl ⟨rfl, HK.out⟩
theorem sort_flag (w : World) (b : Bool) : Calls Tryz.prog 304 #[.bool b] w fun e w' => e = .returned (.int .i64 2) ∧ Keeps (fun _ => False) w w' := by
 have HK := H_ ((Keeps.refl (fun _ => False) w))
 go_enter Tryz.func304, Tryz.ntmps304
 go_wp2
 go_ret
 exact ⟨rfl, HK.out⟩
theorem method_number (v : Value) (w : World) : (Go.method 529 223 v "affidavit/node.sized").run Tryz.prog w = .ok (305, v) w := by kernel_rfl
theorem methodS_number (v : Value) (w : World) : (Go.method 529 223 v "affidavit/node.sort").run Tryz.prog w = .ok (306, v) w := by kernel_rfl
theorem sized_number (w : World) (b : Nat) : Calls Tryz.prog 305 #[.float .f64 b] w fun e w' => e = .returned (.agg #[.int .i64 1, .int .i64 0, .int .i64 1]) ∧ Keeps (fun _ => False) w w' := by
 have hb := Blk.new (w) 228 [.int .i64 0, .int .i64 0, .int .i64 0]
 have f0 := hb.frozen 0
 have f1 := hb.frozen 1
 have f2 := hb.frozen 2
 have HR := Blk.new (w) 228 [.int .i64 1, .int .i64 0, .int .i64 1]
 replace HR := H_ HR
 have HK := H_ (((Keeps.refl (fun _ => False) w)).alloc (.cells #[.int .i64 1, .int .i64 0, .int .i64 1] 228))
 clear hb
 go_enter Tryz.func305, Tryz.ntmps305
 go_wp2
 exact bodyPost_ret (results_blk rfl _ _ rfl HR.out Tryz.underlying228 rfl (by kernel_rfl)) rfl ⟨rfl, HK.out⟩
theorem sort_number (w : World) (b : Nat) : Calls Tryz.prog 306 #[.float .f64 b] w fun e w' => e = .returned (.int .i64 3) ∧ Keeps (fun _ => False) w w' := by
 have HK := H_ ((Keeps.refl (fun _ => False) w))
 go_enter Tryz.func306, Tryz.ntmps306
 go_wp2
 go_ret
 exact ⟨rfl, HK.out⟩
theorem method_text (v : Value) (w : World) : (Go.method 529 224 v "affidavit/node.sized").run Tryz.prog w = .ok (307, v) w := by kernel_rfl
theorem methodS_text (v : Value) (w : World) : (Go.method 529 224 v "affidavit/node.sort").run Tryz.prog w = .ok (308, v) w := by kernel_rfl
theorem sized_text (w : World) (s : ByteArray) : Calls Tryz.prog 307 #[.string s] w fun e w' => e = .returned (.agg #[.int .i64 1, .int .i64 s.size, .int .i64 1]) ∧ Keeps (fun _ => False) w w' := by
 have hb := Blk.new (w) 228 [.int .i64 0, .int .i64 0, .int .i64 0]
 have f0 := hb.frozen 0
 have f1 := hb.frozen 1
 have f2 := hb.frozen 2
 have HR := Blk.new (w) 228 [.int .i64 1, .int .i64 s.size, .int .i64 1]
 replace HR := H_ HR
 have HK := H_ (((Keeps.refl (fun _ => False) w)).alloc (.cells #[.int .i64 1, .int .i64 s.size, .int .i64 1] 228))
 clear hb
 go_enter Tryz.func307, Tryz.ntmps307
 go_wp2
 exact bodyPost_ret (results_blk rfl _ _ rfl HR.out Tryz.underlying228 rfl (by kernel_rfl)) rfl ⟨rfl, HK.out⟩
theorem sort_text (w : World) (s : ByteArray) : Calls Tryz.prog 308 #[.string s] w fun e w' => e = .returned (.int .i64 4) ∧ Keeps (fun _ => False) w w' := by
 have HK := H_ ((Keeps.refl (fun _ => False) w))
 go_enter Tryz.func308, Tryz.ntmps308
 go_wp2
 go_ret
 exact ⟨rfl, HK.out⟩
def Bq (D : Nat → Prop) (p : Nat) (v : Value) (i : Nat) : Prop := D i ∧ i ≠ p ∧ v.ownBlock ≠ some i
structure RowAt (T : TypeId) (D : Nat → Prop) (w : World) (p : Nat) (A : Option Addr) (c : Nat) (vs : List Value) (P : List JV) : Prop where
 blk : Blk w p T [.slice A P.length c]
 own : w.ownsRow 0 93 1 (.slice A P.length c) P.length vs
 at_ : ∀ (i : Nat) (v : Value) (j : JV), vs[i]? = some v → P[i]? = some j → JAt (Bq D p (.slice A P.length c)) w v j
 ne : T ≠ 93
 new : ∀ i, w.heap.size ≤ i → D i
 inn : ∀ g, (Value.slice A P.length c).ownBlock = some g → D g ∧ p ≤ g
section
variable {T : TypeId} {D : Nat → Prop} {w w' : World} {p : Nat} {A : Option Addr} {c : Nat} {vs : List Value} {P : List JV}
theorem RowAt.len (h : RowAt T D w p A c vs P) : vs.length = P.length := by simpa using h.own.1
theorem RowAt.ne_own (h : RowAt T D w p A c vs P) : (Value.slice A P.length c).ownBlock ≠ some p := own_blk h.own h.blk (fun e => h.ne e.symm)
theorem RowAt.keep (h : RowAt T D w p A c vs P) {F : Nat → Prop} (hk : Keeps F w w') (hp : ¬ F p) (ho : ∀ g, (Value.slice A P.length c).ownBlock = some g → ¬ F g) (hD : ∀ i, D i → ¬ F i) : RowAt T D w' p A c vs P :=
 ⟨hk.blk h.blk hp, hk.own h.own ho, fun i v j hv hj => (h.at_ i v j hv hj).keep hk (fun i hi => hD i hi.1), h.ne, fun i hi => h.new i (Nat.le_trans hk.size hi), h.inn⟩
theorem RowAt.stay (h : RowAt T D w p A c vs P) (hk : Keeps (fun _ => False) w w') : RowAt T D w' p A c vs P := h.keep hk (fun h => h) (fun _ _ h => h) (fun _ _ h => h)
theorem RowAt.stored (h : RowAt T D w p A c vs P) {A' : Option Addr} {c' : Nat} {vs' : List Value} {P' : List JV} (hk : Keeps (fun i => (Value.slice A P.length c).ownBlock = some i) w w')
  (ho : w'.ownsRow 0 93 1 (.slice A' P'.length c') P'.length vs') (hu : (Value.slice A' P'.length c').ownBlock = (Value.slice A P.length c).ownBlock ∨ ∃ g, (Value.slice A' P'.length c').ownBlock = some g ∧ w.heap.size ≤ g)
  (hat : ∀ (i : Nat) (v : Value) (j : JV), vs'[i]? = some v → P'[i]? = some j → JAt (Bq D p (.slice A P.length c)) w v j) :
  RowAt T D (w'.setCell ⟨p, 0, none⟩ (.slice A' P'.length c')) p A' c' vs' P' ∧ Keeps (fun i => i = p ∨ (Value.slice A P.length c).ownBlock = some i) w (w'.setCell ⟨p, 0, none⟩ (.slice A' P'.length c')) := by
 have hb : Blk w' p T [.slice A P.length c] := hk.blk h.blk h.ne_own
 have hset : Keeps (fun i => i = p) w' (w'.setCell ⟨p, 0, none⟩ (.slice A' P'.length c')) := (Keeps.refl (fun i => i = p) w').setCell (p := ⟨p, 0, none⟩) (.inl rfl) _
 have hall : Keeps (fun i => i = p ∨ (Value.slice A P.length c).ownBlock = some i) w (w'.setCell ⟨p, 0, none⟩ (.slice A' P'.length c')) := (hk.mono (fun _ _ e => .inr e)).trans hset (fun _ _ e => .inl e)
 have hlt := h.blk.lt
 have nu : (Value.slice A' P'.length c').ownBlock ≠ some p := by
  rcases hu with e | ⟨g, e, hg⟩
  ·rw [e]; exact h.ne_own
  ·rw [e]; intro e'; injection e' with e'; omega
 refine ⟨⟨hb.set_ 0 _, hset.own ho (fun g hg e => by have e' : g = p := e; subst e'; exact nu hg), fun i v j hv hj => ?_, h.ne, fun i hi => h.new i (Nat.le_trans hall.size hi), fun g hg => ?_⟩, hall⟩
 refine ((hat i v j hv hj).mono (C := fun i => Bq D p (.slice A P.length c) i ∧ i < w.heap.size) (fun i hi hl => ⟨hi, hl⟩)).keep hall (fun i hi e => ?_) |>.mono (fun i hi _ => ⟨hi.1.1, hi.1.2.1, fun e => ?_⟩)
 ·rcases e with e | e
  ·exact hi.1.2.1 e
  ·exact hi.1.2.2 e
 ·rcases hu with e' | ⟨g, e', hg⟩
  ·exact hi.1.2.2 (e' ▸ e)
  ·rw [e'] at e; injection e with e; have := hi.2; omega
 ·rcases hu with e' | ⟨g', e', hg'⟩
  ·exact h.inn g (e' ▸ hg)
  ·rw [e'] at hg; injection hg with hg; exact ⟨h.new g (hg ▸ hg'), by omega⟩
end
theorem infoIt : (Tryz.prog.info? 93).map (fun i => (i.zero, i.size, i.bytes)) = some (some .nilIface, 1, 16) := by kernel_rfl
def RowPost (T : TypeId) (D : Nat → Prop) (w : World) (p : Nat) (v : Value) (P : List JV) (w' : World) : Prop := (∃ A' c' vs', RowAt T D w' p A' c' vs' P) ∧ Keeps (fun i => i = p ∨ v.ownBlock = some i) w w'
theorem put_null (T : TypeId) (D : Nat → Prop) (w : World) (p : Nat) (A : Option Addr) (c : Nat) (vs : List Value) (P : List JV) (h : RowAt T D w p A c vs P) (hn : P.length ≤ 1048576) 
  (hj : JAt (Bq D p (.slice A P.length c)) w (.iface 217 (.agg #[])) (JV.null)) (q : Bool) (hq : (decide (( 0 : Int) ≤ 2097152)) = q) :
  Calls Tryz.prog 109 #[.pointer (some ⟨p, 0, none⟩), .iface 217 (.agg #[])] w fun e w' => if q then e = .returned (.tuple #[]) ∧ RowPost T D w p (.slice A P.length c) (P ++ [JV.null]) w' else e = errP 3 ∧ Keeps (fun _ => False) w w' := by
 obtain ⟨n, hnn⟩ : ∃ n, n = P.length := ⟨_, rfl⟩
 have HH := H_ h
 have HJ := H_ hj
 have hown := h.own
 rw [← hnn] at hown hn ⊢
 have HN := H_ hnn
 have HO := H_ hown
 have HCL : Hid (∀ W, Keeps (fun _ => False) w W → W.cell? ⟨p, 0, none⟩ = some (.slice A n c) ∧ W.frozen? ⟨p, 0, none⟩ = false) := H_ fun W hW => by
  have := hW.blk h.blk (fun h => h)
  exact ⟨by rw [this.cell, hnn]; rfl, this.frozen 0⟩
 have HS := H_ fun W => sized_null W 
 have HW : Hid (∀ W, Calls Tryz.prog 164 #[.agg #[.int .i64 1, .int .i64 ( 0), .int .i64 1]] W fun e w' => e = .returned (.bool q) ∧ Keeps (fun _ => False) W w') := H_ fun W => by
  have := within_any W 1 ( 0 : Int) 1
  refine this.mono fun e w' hh => ⟨hh.1.trans ?_, hh.2⟩
  rw [← hq]
  simp
 have hm := method_null
 have HRW : Hid (∀ W A' c' W', Keeps (fun _ => False) w W → W'.ownsRow 0 93 1 (.slice A' (n + 1) c') (n + 1) (vs ++ [.iface 217 (.agg #[])]) → (W.alloc (.cells #[.iface 217 (.agg #[])] 93)).grownBy W' (Value.slice A n c).ownBlock →
   ((Value.slice A' (n + 1) c').ownBlock = (Value.slice A n c).ownBlock ∨ (Value.slice A' (n + 1) c').ownBlock = some (W.alloc (.cells #[.iface 217 (.agg #[])] 93)).heap.size) →
   (W'.cell? ⟨p, 0, none⟩ = some (.slice A n c) ∧ W'.frozen? ⟨p, 0, none⟩ = false) ∧ RowPost T D w p (.slice A n c) (P ++ [JV.null]) (W'.setCell ⟨p, 0, none⟩ (.slice A' (n + 1) c'))) := H_ fun W A' c' W' hW ho hg hb => by
  have hk : Keeps (fun i => (Value.slice A P.length c).ownBlock = some i) w W' := ((hW.mono (fun _ _ h => h.elim)).alloc _).grown hg (fun g e => .inl (by rw [← hnn]; exact e))
  have hbl := hk.blk h.blk h.ne_own
  refine ⟨⟨by rw [hbl.cell, hnn]; rfl, hbl.frozen 0⟩, ?_⟩
  have hle : (P ++ [JV.null]).length = n + 1 := by rw [List.length_append, hnn]; rfl
  have hs := h.stored (P' := P ++ [JV.null]) (A' := A') (c' := c') (vs' := vs ++ [.iface 217 (.agg #[])]) hk (by rw [hle]; exact ho) (by
   rw [hle, ← hnn]
   rcases hb with e | e
   ·exact .inl e
   ·refine .inr ⟨_, e, ?_⟩
    rw [World.size_alloc]
    have := hW.size
    omega) (fun i u j hv hj' => by
   rw [List.getElem?_append] at hv hj'
   by_cases hi : i < P.length
   ·rw [if_pos (by rw [h.len]; exact hi)] at hv
    rw [if_pos hi] at hj'
    exact h.at_ i u j hv hj'
   ·rw [if_neg (by rw [h.len]; exact hi)] at hv
    rw [if_neg hi] at hj'
    have hz : i - P.length = 0 := by
     rcases Nat.eq_zero_or_pos (i - P.length) with e | e
     ·exact e
     ·rw [List.getElem?_eq_none (by simp; omega)] at hj'; cases hj'
    rw [h.len, hz] at hv
    rw [hz] at hj'
    injection hv with hv
    injection hj' with hj'
    subst hv hj'
    exact hj)
  rw [hle] at hs
  refine ⟨⟨A', c', _, hs.1⟩, ?_⟩
  have h2 := hs.2
  rw [← hnn] at h2
  exact h2
 clear h hj hown hnn hq
 rcases q with _ | _
 ·go_enter Tryz.func109, Tryz.ntmps109
  go_wp2_with (first
   | (go_at_call 301; refine (HS.out _).mono ?_; rintro e w1 ⟨rfl, hk1⟩; have HK1 := H_ hk1; clear hk1)
   | (go_at_call 164; refine (HW.out _).mono ?_; rintro e w2 ⟨rfl, hk2⟩; have HK2 := H_ (HK1.out.trans hk2 (fun _ _ h => h)); clear hk2))
  exact ⟨rfl, rfl, HK2.out⟩
 ·go_enter Tryz.func109, Tryz.ntmps109
  go_wp2_with (first
   | (go_at_call 301; refine (HS.out _).mono ?_; rintro e w1 ⟨rfl, hk1⟩; have HK1 := H_ hk1; clear hk1)
   | (go_at_call 164; refine (HW.out _).mono ?_; rintro e w2 ⟨rfl, hk2⟩; have HK2 := H_ (HK1.out.trans hk2 (fun _ _ h => h)); obtain ⟨c0, f0⟩ := HCL.out _ HK2.out; clear hk2)
   | (at_builtin; refine wpList_append_rd _ rfl (.tmp 13) (.tmp 15) 127 rfl 93 .nilIface 16 Tryz.underlying127 infoIt rfl _ n vs rfl ((HK2.out.alloc (.cells #[.iface 217 (.agg #[])] 93)).own HO.out (fun _ _ h => h)) _ 1 1 [.iface 217 (.agg #[])] rfl (Rd.of_blk (Blk.new w2 93 [.iface 217 (.agg #[])]) rfl) (by intro y hy; rw [List.mem_singleton.1 hy]; rfl) (by unfold maxLen; omega) (by omega) ?_; intro A' c' w3 hown hg hb; obtain ⟨⟨c0, f0⟩, hend⟩ := HRW.out _ _ _ _ HK2.out hown hg hb; have HEND := H_ hend; clear hown hg hb hend))
  go_end0
  exact ⟨rfl, HEND.out⟩
theorem put_flag (T : TypeId) (D : Nat → Prop) (w : World) (p : Nat) (A : Option Addr) (c : Nat) (vs : List Value) (P : List JV) (h : RowAt T D w p A c vs P) (hn : P.length ≤ 1048576) (b : Bool) 
  (hj : JAt (Bq D p (.slice A P.length c)) w (.iface 218 (.bool b)) (JV.flag b)) (q : Bool) (hq : (decide (( 0 : Int) ≤ 2097152)) = q) :
  Calls Tryz.prog 109 #[.pointer (some ⟨p, 0, none⟩), .iface 218 (.bool b)] w fun e w' => if q then e = .returned (.tuple #[]) ∧ RowPost T D w p (.slice A P.length c) (P ++ [JV.flag b]) w' else e = errP 3 ∧ Keeps (fun _ => False) w w' := by
 obtain ⟨n, hnn⟩ : ∃ n, n = P.length := ⟨_, rfl⟩
 have HH := H_ h
 have HJ := H_ hj
 have hown := h.own
 rw [← hnn] at hown hn ⊢
 have HN := H_ hnn
 have HO := H_ hown
 have HCL : Hid (∀ W, Keeps (fun _ => False) w W → W.cell? ⟨p, 0, none⟩ = some (.slice A n c) ∧ W.frozen? ⟨p, 0, none⟩ = false) := H_ fun W hW => by
  have := hW.blk h.blk (fun h => h)
  exact ⟨by rw [this.cell, hnn]; rfl, this.frozen 0⟩
 have HS := H_ fun W => sized_flag W b
 have HW : Hid (∀ W, Calls Tryz.prog 164 #[.agg #[.int .i64 1, .int .i64 ( 0), .int .i64 1]] W fun e w' => e = .returned (.bool q) ∧ Keeps (fun _ => False) W w') := H_ fun W => by
  have := within_any W 1 ( 0 : Int) 1
  refine this.mono fun e w' hh => ⟨hh.1.trans ?_, hh.2⟩
  rw [← hq]
  simp
 have hm := method_flag
 have HRW : Hid (∀ W A' c' W', Keeps (fun _ => False) w W → W'.ownsRow 0 93 1 (.slice A' (n + 1) c') (n + 1) (vs ++ [.iface 218 (.bool b)]) → (W.alloc (.cells #[.iface 218 (.bool b)] 93)).grownBy W' (Value.slice A n c).ownBlock →
   ((Value.slice A' (n + 1) c').ownBlock = (Value.slice A n c).ownBlock ∨ (Value.slice A' (n + 1) c').ownBlock = some (W.alloc (.cells #[.iface 218 (.bool b)] 93)).heap.size) →
   (W'.cell? ⟨p, 0, none⟩ = some (.slice A n c) ∧ W'.frozen? ⟨p, 0, none⟩ = false) ∧ RowPost T D w p (.slice A n c) (P ++ [JV.flag b]) (W'.setCell ⟨p, 0, none⟩ (.slice A' (n + 1) c'))) := H_ fun W A' c' W' hW ho hg hb => by
  have hk : Keeps (fun i => (Value.slice A P.length c).ownBlock = some i) w W' := ((hW.mono (fun _ _ h => h.elim)).alloc _).grown hg (fun g e => .inl (by rw [← hnn]; exact e))
  have hbl := hk.blk h.blk h.ne_own
  refine ⟨⟨by rw [hbl.cell, hnn]; rfl, hbl.frozen 0⟩, ?_⟩
  have hle : (P ++ [JV.flag b]).length = n + 1 := by rw [List.length_append, hnn]; rfl
  have hs := h.stored (P' := P ++ [JV.flag b]) (A' := A') (c' := c') (vs' := vs ++ [.iface 218 (.bool b)]) hk (by rw [hle]; exact ho) (by
   rw [hle, ← hnn]
   rcases hb with e | e
   ·exact .inl e
   ·refine .inr ⟨_, e, ?_⟩
    rw [World.size_alloc]
    have := hW.size
    omega) (fun i u j hv hj' => by
   rw [List.getElem?_append] at hv hj'
   by_cases hi : i < P.length
   ·rw [if_pos (by rw [h.len]; exact hi)] at hv
    rw [if_pos hi] at hj'
    exact h.at_ i u j hv hj'
   ·rw [if_neg (by rw [h.len]; exact hi)] at hv
    rw [if_neg hi] at hj'
    have hz : i - P.length = 0 := by
     rcases Nat.eq_zero_or_pos (i - P.length) with e | e
     ·exact e
     ·rw [List.getElem?_eq_none (by simp; omega)] at hj'; cases hj'
    rw [h.len, hz] at hv
    rw [hz] at hj'
    injection hv with hv
    injection hj' with hj'
    subst hv hj'
    exact hj)
  rw [hle] at hs
  refine ⟨⟨A', c', _, hs.1⟩, ?_⟩
  have h2 := hs.2
  rw [← hnn] at h2
  exact h2
 clear h hj hown hnn hq
 rcases q with _ | _
 ·go_enter Tryz.func109, Tryz.ntmps109
  go_wp2_with (first
   | (go_at_call 303; refine (HS.out _).mono ?_; rintro e w1 ⟨rfl, hk1⟩; have HK1 := H_ hk1; clear hk1)
   | (go_at_call 164; refine (HW.out _).mono ?_; rintro e w2 ⟨rfl, hk2⟩; have HK2 := H_ (HK1.out.trans hk2 (fun _ _ h => h)); clear hk2))
  exact ⟨rfl, rfl, HK2.out⟩
 ·go_enter Tryz.func109, Tryz.ntmps109
  go_wp2_with (first
   | (go_at_call 303; refine (HS.out _).mono ?_; rintro e w1 ⟨rfl, hk1⟩; have HK1 := H_ hk1; clear hk1)
   | (go_at_call 164; refine (HW.out _).mono ?_; rintro e w2 ⟨rfl, hk2⟩; have HK2 := H_ (HK1.out.trans hk2 (fun _ _ h => h)); obtain ⟨c0, f0⟩ := HCL.out _ HK2.out; clear hk2)
   | (at_builtin; refine wpList_append_rd _ rfl (.tmp 13) (.tmp 15) 127 rfl 93 .nilIface 16 Tryz.underlying127 infoIt rfl _ n vs rfl ((HK2.out.alloc (.cells #[.iface 218 (.bool b)] 93)).own HO.out (fun _ _ h => h)) _ 1 1 [.iface 218 (.bool b)] rfl (Rd.of_blk (Blk.new w2 93 [.iface 218 (.bool b)]) rfl) (by intro y hy; rw [List.mem_singleton.1 hy]; rfl) (by unfold maxLen; omega) (by omega) ?_; intro A' c' w3 hown hg hb; obtain ⟨⟨c0, f0⟩, hend⟩ := HRW.out _ _ _ _ HK2.out hown hg hb; have HEND := H_ hend; clear hown hg hb hend))
  go_end0
  exact ⟨rfl, HEND.out⟩
theorem put_number (T : TypeId) (D : Nat → Prop) (w : World) (p : Nat) (A : Option Addr) (c : Nat) (vs : List Value) (P : List JV) (h : RowAt T D w p A c vs P) (hn : P.length ≤ 1048576) (b : Nat) 
  (hj : JAt (Bq D p (.slice A P.length c)) w (.iface 223 (.float .f64 b)) (JV.num b)) (q : Bool) (hq : (decide (( 0 : Int) ≤ 2097152)) = q) :
  Calls Tryz.prog 109 #[.pointer (some ⟨p, 0, none⟩), .iface 223 (.float .f64 b)] w fun e w' => if q then e = .returned (.tuple #[]) ∧ RowPost T D w p (.slice A P.length c) (P ++ [JV.num b]) w' else e = errP 3 ∧ Keeps (fun _ => False) w w' := by
 obtain ⟨n, hnn⟩ : ∃ n, n = P.length := ⟨_, rfl⟩
 have HH := H_ h
 have HJ := H_ hj
 have hown := h.own
 rw [← hnn] at hown hn ⊢
 have HN := H_ hnn
 have HO := H_ hown
 have HCL : Hid (∀ W, Keeps (fun _ => False) w W → W.cell? ⟨p, 0, none⟩ = some (.slice A n c) ∧ W.frozen? ⟨p, 0, none⟩ = false) := H_ fun W hW => by
  have := hW.blk h.blk (fun h => h)
  exact ⟨by rw [this.cell, hnn]; rfl, this.frozen 0⟩
 have HS := H_ fun W => sized_number W b
 have HW : Hid (∀ W, Calls Tryz.prog 164 #[.agg #[.int .i64 1, .int .i64 ( 0), .int .i64 1]] W fun e w' => e = .returned (.bool q) ∧ Keeps (fun _ => False) W w') := H_ fun W => by
  have := within_any W 1 ( 0 : Int) 1
  refine this.mono fun e w' hh => ⟨hh.1.trans ?_, hh.2⟩
  rw [← hq]
  simp
 have hm := method_number
 have HRW : Hid (∀ W A' c' W', Keeps (fun _ => False) w W → W'.ownsRow 0 93 1 (.slice A' (n + 1) c') (n + 1) (vs ++ [.iface 223 (.float .f64 b)]) → (W.alloc (.cells #[.iface 223 (.float .f64 b)] 93)).grownBy W' (Value.slice A n c).ownBlock →
   ((Value.slice A' (n + 1) c').ownBlock = (Value.slice A n c).ownBlock ∨ (Value.slice A' (n + 1) c').ownBlock = some (W.alloc (.cells #[.iface 223 (.float .f64 b)] 93)).heap.size) →
   (W'.cell? ⟨p, 0, none⟩ = some (.slice A n c) ∧ W'.frozen? ⟨p, 0, none⟩ = false) ∧ RowPost T D w p (.slice A n c) (P ++ [JV.num b]) (W'.setCell ⟨p, 0, none⟩ (.slice A' (n + 1) c'))) := H_ fun W A' c' W' hW ho hg hb => by
  have hk : Keeps (fun i => (Value.slice A P.length c).ownBlock = some i) w W' := ((hW.mono (fun _ _ h => h.elim)).alloc _).grown hg (fun g e => .inl (by rw [← hnn]; exact e))
  have hbl := hk.blk h.blk h.ne_own
  refine ⟨⟨by rw [hbl.cell, hnn]; rfl, hbl.frozen 0⟩, ?_⟩
  have hle : (P ++ [JV.num b]).length = n + 1 := by rw [List.length_append, hnn]; rfl
  have hs := h.stored (P' := P ++ [JV.num b]) (A' := A') (c' := c') (vs' := vs ++ [.iface 223 (.float .f64 b)]) hk (by rw [hle]; exact ho) (by
   rw [hle, ← hnn]
   rcases hb with e | e
   ·exact .inl e
   ·refine .inr ⟨_, e, ?_⟩
    rw [World.size_alloc]
    have := hW.size
    omega) (fun i u j hv hj' => by
   rw [List.getElem?_append] at hv hj'
   by_cases hi : i < P.length
   ·rw [if_pos (by rw [h.len]; exact hi)] at hv
    rw [if_pos hi] at hj'
    exact h.at_ i u j hv hj'
   ·rw [if_neg (by rw [h.len]; exact hi)] at hv
    rw [if_neg hi] at hj'
    have hz : i - P.length = 0 := by
     rcases Nat.eq_zero_or_pos (i - P.length) with e | e
     ·exact e
     ·rw [List.getElem?_eq_none (by simp; omega)] at hj'; cases hj'
    rw [h.len, hz] at hv
    rw [hz] at hj'
    injection hv with hv
    injection hj' with hj'
    subst hv hj'
    exact hj)
  rw [hle] at hs
  refine ⟨⟨A', c', _, hs.1⟩, ?_⟩
  have h2 := hs.2
  rw [← hnn] at h2
  exact h2
 clear h hj hown hnn hq
 rcases q with _ | _
 ·go_enter Tryz.func109, Tryz.ntmps109
  go_wp2_with (first
   | (go_at_call 305; refine (HS.out _).mono ?_; rintro e w1 ⟨rfl, hk1⟩; have HK1 := H_ hk1; clear hk1)
   | (go_at_call 164; refine (HW.out _).mono ?_; rintro e w2 ⟨rfl, hk2⟩; have HK2 := H_ (HK1.out.trans hk2 (fun _ _ h => h)); clear hk2))
  exact ⟨rfl, rfl, HK2.out⟩
 ·go_enter Tryz.func109, Tryz.ntmps109
  go_wp2_with (first
   | (go_at_call 305; refine (HS.out _).mono ?_; rintro e w1 ⟨rfl, hk1⟩; have HK1 := H_ hk1; clear hk1)
   | (go_at_call 164; refine (HW.out _).mono ?_; rintro e w2 ⟨rfl, hk2⟩; have HK2 := H_ (HK1.out.trans hk2 (fun _ _ h => h)); obtain ⟨c0, f0⟩ := HCL.out _ HK2.out; clear hk2)
   | (at_builtin; refine wpList_append_rd _ rfl (.tmp 13) (.tmp 15) 127 rfl 93 .nilIface 16 Tryz.underlying127 infoIt rfl _ n vs rfl ((HK2.out.alloc (.cells #[.iface 223 (.float .f64 b)] 93)).own HO.out (fun _ _ h => h)) _ 1 1 [.iface 223 (.float .f64 b)] rfl (Rd.of_blk (Blk.new w2 93 [.iface 223 (.float .f64 b)]) rfl) (by intro y hy; rw [List.mem_singleton.1 hy]; rfl) (by unfold maxLen; omega) (by omega) ?_; intro A' c' w3 hown hg hb; obtain ⟨⟨c0, f0⟩, hend⟩ := HRW.out _ _ _ _ HK2.out hown hg hb; have HEND := H_ hend; clear hown hg hb hend))
  go_end0
  exact ⟨rfl, HEND.out⟩
theorem put_text (T : TypeId) (D : Nat → Prop) (w : World) (p : Nat) (A : Option Addr) (c : Nat) (vs : List Value) (P : List JV) (h : RowAt T D w p A c vs P) (hn : P.length ≤ 1048576) (s : ByteArray) 
  (hj : JAt (Bq D p (.slice A P.length c)) w (.iface 224 (.string s)) (JV.text s)) (q : Bool) (hq : (decide (( s.size : Int) ≤ 2097152)) = q) :
  Calls Tryz.prog 109 #[.pointer (some ⟨p, 0, none⟩), .iface 224 (.string s)] w fun e w' => if q then e = .returned (.tuple #[]) ∧ RowPost T D w p (.slice A P.length c) (P ++ [JV.text s]) w' else e = errP 3 ∧ Keeps (fun _ => False) w w' := by
 obtain ⟨n, hnn⟩ : ∃ n, n = P.length := ⟨_, rfl⟩
 have HH := H_ h
 have HJ := H_ hj
 have hown := h.own
 rw [← hnn] at hown hn ⊢
 have HN := H_ hnn
 have HO := H_ hown
 have HCL : Hid (∀ W, Keeps (fun _ => False) w W → W.cell? ⟨p, 0, none⟩ = some (.slice A n c) ∧ W.frozen? ⟨p, 0, none⟩ = false) := H_ fun W hW => by
  have := hW.blk h.blk (fun h => h)
  exact ⟨by rw [this.cell, hnn]; rfl, this.frozen 0⟩
 have HS := H_ fun W => sized_text W s
 have HW : Hid (∀ W, Calls Tryz.prog 164 #[.agg #[.int .i64 1, .int .i64 ( s.size), .int .i64 1]] W fun e w' => e = .returned (.bool q) ∧ Keeps (fun _ => False) W w') := H_ fun W => by
  have := within_any W 1 ( s.size : Int) 1
  refine this.mono fun e w' hh => ⟨hh.1.trans ?_, hh.2⟩
  rw [← hq]
  simp
 have hm := method_text
 have HRW : Hid (∀ W A' c' W', Keeps (fun _ => False) w W → W'.ownsRow 0 93 1 (.slice A' (n + 1) c') (n + 1) (vs ++ [.iface 224 (.string s)]) → (W.alloc (.cells #[.iface 224 (.string s)] 93)).grownBy W' (Value.slice A n c).ownBlock →
   ((Value.slice A' (n + 1) c').ownBlock = (Value.slice A n c).ownBlock ∨ (Value.slice A' (n + 1) c').ownBlock = some (W.alloc (.cells #[.iface 224 (.string s)] 93)).heap.size) →
   (W'.cell? ⟨p, 0, none⟩ = some (.slice A n c) ∧ W'.frozen? ⟨p, 0, none⟩ = false) ∧ RowPost T D w p (.slice A n c) (P ++ [JV.text s]) (W'.setCell ⟨p, 0, none⟩ (.slice A' (n + 1) c'))) := H_ fun W A' c' W' hW ho hg hb => by
  have hk : Keeps (fun i => (Value.slice A P.length c).ownBlock = some i) w W' := ((hW.mono (fun _ _ h => h.elim)).alloc _).grown hg (fun g e => .inl (by rw [← hnn]; exact e))
  have hbl := hk.blk h.blk h.ne_own
  refine ⟨⟨by rw [hbl.cell, hnn]; rfl, hbl.frozen 0⟩, ?_⟩
  have hle : (P ++ [JV.text s]).length = n + 1 := by rw [List.length_append, hnn]; rfl
  have hs := h.stored (P' := P ++ [JV.text s]) (A' := A') (c' := c') (vs' := vs ++ [.iface 224 (.string s)]) hk (by rw [hle]; exact ho) (by
   rw [hle, ← hnn]
   rcases hb with e | e
   ·exact .inl e
   ·refine .inr ⟨_, e, ?_⟩
    rw [World.size_alloc]
    have := hW.size
    omega) (fun i u j hv hj' => by
   rw [List.getElem?_append] at hv hj'
   by_cases hi : i < P.length
   ·rw [if_pos (by rw [h.len]; exact hi)] at hv
    rw [if_pos hi] at hj'
    exact h.at_ i u j hv hj'
   ·rw [if_neg (by rw [h.len]; exact hi)] at hv
    rw [if_neg hi] at hj'
    have hz : i - P.length = 0 := by
     rcases Nat.eq_zero_or_pos (i - P.length) with e | e
     ·exact e
     ·rw [List.getElem?_eq_none (by simp; omega)] at hj'; cases hj'
    rw [h.len, hz] at hv
    rw [hz] at hj'
    injection hv with hv
    injection hj' with hj'
    subst hv hj'
    exact hj)
  rw [hle] at hs
  refine ⟨⟨A', c', _, hs.1⟩, ?_⟩
  have h2 := hs.2
  rw [← hnn] at h2
  exact h2
 clear h hj hown hnn hq
 rcases q with _ | _
 ·go_enter Tryz.func109, Tryz.ntmps109
  go_wp2_with (first
   | (go_at_call 307; refine (HS.out _).mono ?_; rintro e w1 ⟨rfl, hk1⟩; have HK1 := H_ hk1; clear hk1)
   | (go_at_call 164; refine (HW.out _).mono ?_; rintro e w2 ⟨rfl, hk2⟩; have HK2 := H_ (HK1.out.trans hk2 (fun _ _ h => h)); clear hk2))
  exact ⟨rfl, rfl, HK2.out⟩
 ·go_enter Tryz.func109, Tryz.ntmps109
  go_wp2_with (first
   | (go_at_call 307; refine (HS.out _).mono ?_; rintro e w1 ⟨rfl, hk1⟩; have HK1 := H_ hk1; clear hk1)
   | (go_at_call 164; refine (HW.out _).mono ?_; rintro e w2 ⟨rfl, hk2⟩; have HK2 := H_ (HK1.out.trans hk2 (fun _ _ h => h)); obtain ⟨c0, f0⟩ := HCL.out _ HK2.out; clear hk2)
   | (at_builtin; refine wpList_append_rd _ rfl (.tmp 13) (.tmp 15) 127 rfl 93 .nilIface 16 Tryz.underlying127 infoIt rfl _ n vs rfl ((HK2.out.alloc (.cells #[.iface 224 (.string s)] 93)).own HO.out (fun _ _ h => h)) _ 1 1 [.iface 224 (.string s)] rfl (Rd.of_blk (Blk.new w2 93 [.iface 224 (.string s)]) rfl) (by intro y hy; rw [List.mem_singleton.1 hy]; rfl) (by unfold maxLen; omega) (by omega) ?_; intro A' c' w3 hown hg hb; obtain ⟨⟨c0, f0⟩, hend⟩ := HRW.out _ _ _ _ HK2.out hown hg hb; have HEND := H_ hend; clear hown hg hb hend))
  go_end0
  exact ⟨rfl, HEND.out⟩
theorem do_catch (r : Nat) (k : Int) (older : List PanicEntry) (w : World) (hb : Blk w r 32 [.nilIface]) :
  CallsD Tryz.prog 106 #[.pointer (some ⟨r, 0, none⟩)] (.panicking ({ v := .iface 85 (.int .i64 k), recovered := false } :: older)) w fun e u' w' =>
   e = .returned (.tuple #[]) ∧ u' = .panicking ({ v := .iface 85 (.int .i64 k), recovered := true } :: older) ∧ Blk w' r 32 [.iface 85 (.int .i64 k)] ∧ Keeps (fun i => i = r) w w' := by
 have c0 := hb.cell 0
 have f0 := hb.frozen 0
 have ht := rec_errno (.int .i64 k)
 refine callsD_of_wpS Tryz.func106 rfl fun c₀ cs hu => ?_
 apply wpS_seq
 apply wpS_region
 simp [wpOpsS, go_sem, recoverD, hu, Tryz.ntmps106, Exit.thenS]
 apply wpS_seq
 apply wpS_region
 simp [wpOpsS, go_sem, recoverD, hu, Exit.thenS]
 refine wpS_cond (t := true) (by simp [Act.eval, Array.replicate]) ?_
 simp only [if_true]
 apply wpS_region
 simp [wpOpsS, go_sem, ht, c0, f0, bodyPostS, results, Tryz.results106]
 exact ⟨hb.set_ 0 _, (Keeps.refl (fun i => i = r) w).setCell (p := ⟨r, 0, none⟩) (.inl rfl) _⟩
theorem do_idle (p : Addr) (w : World) :
  CallsD Tryz.prog 106 #[.pointer (some p)] .returning w fun e u' w' => e = .returned (.tuple #[]) ∧ u' = .returning ∧ w' = w := by
 refine callsD_of_wpS Tryz.func106 rfl fun c₀ cs hu => ?_
 apply wpS_seq
 apply wpS_region
 simp [wpOpsS, go_sem, recoverD, hu, Tryz.ntmps106, Exit.thenS]
 apply wpS_seq
 apply wpS_region
 simp [wpOpsS, go_sem, recoverD, hu, Exit.thenS]
 refine wpS_cond (t := false) (by simp [Act.eval, Array.replicate]) ?_
 simp only [Bool.false_eq_true, if_false]
 refine wpS_of_wp (wp_skip ?_)
 cases c₀
 simp_all [bodyPostS, results, Tryz.results106]
theorem set_same {w : World} {g : Nat} {t : TypeId} {v : Value} (h : Blk w g t [v]) : w.setCell ⟨g, 0, none⟩ v = w := by
 have hh : (w.setCell ⟨g, 0, none⟩ v).heap = w.heap := by
  apply Array.ext_getElem?
  intro i
  by_cases e : i = g
  ·subst e
   have h1 : (w.setCell ⟨i, 0, none⟩ v).heap[i]? = _ := h.set_ 0 v
   have h2 : w.heap[i]? = _ := h
   rw [h1, h2]
   rfl
  ·exact Below.heap_setCell w ⟨g, 0, none⟩ v i e
 have e : w.setCell ⟨g, 0, none⟩ v = { w with heap := (w.setCell ⟨g, 0, none⟩ v).heap } := rfl
 rw [e, hh]
theorem results_err {fn : Func} {p : Tmp} (h : fn.results = #[.cell p 32]) (tmps : Array Value) (w : World) (g : Nat) (v : Value) (hp : tmps.getD p undef = .pointer (some ⟨g, 0, none⟩)) (hb : Blk w g 32 [v]) : (results fn tmps).run Tryz.prog w = .ok v w := by
 have c0 := hb.cell 0
 have hp' : tmps[p]?.getD undef = .pointer (some ⟨g, 0, none⟩) := by simpa using hp
 simp [results, h, hp', asAddr, go_sem, c0]
def DoPost (T : TypeId) (D : Nat → Prop) (w : World) (p : Nat) (v : Value) (P : List JV) (s : StepV) (e : Ending) (w' : World) : Prop := match doF P s with
 | .inl k => e = .returned (errE k) ∧ Keeps (fun _ => False) w w'
 | .inr P' => e = .returned .nilIface ∧ RowPost T D w p v P' w'
theorem used_parts {s : StepV} (h : usedF s = true) : (s.sort ≠ 4 → s.text.size = 0) ∧ (s.sort ≠ 5 → s.count = 0) ∧ (s.sort ≠ 6 → s.keys = []) ∧ 1 ≤ s.sort ∧ s.sort ≤ 6 ∧ 0 ≤ s.count := by
 simp only [usedF, Bool.and_eq_true, Bool.or_eq_true, decide_eq_true_eq] at h
 obtain ⟨⟨⟨⟨⟨⟨⟨h1, h2⟩, h3⟩, h4⟩, h5⟩, h6⟩, h7⟩, h8⟩ := h
 exact ⟨fun e => h6.resolve_right e, fun e => h7.resolve_right e, fun e => List.length_eq_zero_iff.1 (h8.resolve_right e), h1, h2, h3⟩
theorem right_empty {s : ByteArray} (h : s.size = 0) : rightS s = true := by
 have h1 : sb s = [] := List.length_eq_zero_iff.1 (by rw [sb_len]; exact h)
 unfold rightS
 rw [h1]
 rfl
theorem do_scalar (P : List JV) (s : StepV) (j : JV) (hu : usedF s = true) (h5 : s.sort ≠ 3 ∧ s.sort ≠ 4 ∧ s.sort ≠ 5 ∧ s.sort ≠ 6) (hj : mkV s [] = j) (_ : True) (hw : j.within) : doF P s = .inr (P ++ [j]) := by
 obtain ⟨u1, u2, u3, _, _, _⟩ := used_parts hu
 have k := u3 h5.2.2.2
 have ct := u2 h5.2.2.1
 unfold doF
 rw [if_neg (by rw [hu]; decide), if_neg (fun h => h5.1 h.1), if_neg (by rw [right_empty (u1 h5.2.1), k]; simp), if_neg (by rw [k]; simp), if_neg (by rw [k, ct]; simp)]
 have hz : s.count.toNat + s.keys.length = 0 := by rw [k, ct]; rfl
 rw [hz, Nat.sub_zero, List.drop_length, List.take_length, hj, if_neg (by simpa using hw)]
theorem do_unused (T : TypeId) (D : Nat → Prop) (w : World) (p : Nat) (A : Option Addr) (c : Nat) (vs : List Value) (P : List JV) (h : RowAt T D w p A c vs P) (hn : P.length ≤ 1048576) (s : StepV) (B : Option Addr) (d : Nat) (hu : usedF s = false) :
  Calls Tryz.prog 55 #[.pointer (some ⟨p, 0, none⟩), .agg (stepV s B d).toArray] w (DoPost T D w p (.slice A P.length c) P s) := by
 obtain ⟨SV, hSV⟩ : ∃ SV, SV = stepV s B d := ⟨_, rfl⟩
 have HC0 : Hid (SV[0]? = some (.int .i64 s.sort)) := H_ (by rw [hSV]; rfl)
 have HC1 : Hid (SV[1]? = some (.bool s.flag)) := H_ (by rw [hSV]; rfl)
 have HU : Hid (∀ W, Calls Tryz.prog 108 #[.agg SV.toArray] W fun e w' => e = .returned (.bool false) ∧ Keeps (fun _ => False) W w') := H_ fun W => by
  have := used_any W s B d
  rw [hu, ← hSV] at this
  exact this
 have HSL : Hid (SV.length = 6) := H_ (by rw [hSV]; rfl)
 have HSI : Hid ((Tryz.prog.info? 131).map (·.size) = some SV.length) := H_ (by rw [HSL.out]; kernel_rfl)
 have HR := H_ h
 have hb1 := (Blk.new w 131 SV).alloc (.cells #[.nilIface] 32)
 have hb2 := Blk.new (w.alloc (.cells SV.toArray 131)) 32 [.nilIface]
 rw [World.size_alloc] at hb2
 have HB := H_ (And.intro (And.intro hb1 hb2) (((Keeps.refl (fun _ => False) w).alloc (.cells SV.toArray 131)).alloc (.cells #[.nilIface] 32)))
 have hmf : ∀ (fn : Fn) (first cap : Array Value) (w : World), (Instr.makeFunc fn first cap).run Tryz.prog w = .ok (.func fn first cap) w := fun _ _ _ _ => rfl
 have hlt := h.blk.lt
 rw [← hSV]
 clear h hb1 hb2 hSV
 have _ := hn
 go_enter_defers Tryz.func55, Tryz.ntmps55
 go_wp2_with (first
  | ((with_reducible show wpList _ _ _ (⟨some 8, _, _, _, _, _⟩ :: _) _ _); refine wpList_load_whole rfl 131 _ rfl _ rfl HB.out.1.1 Tryz.underlying131 rfl HSI.out ?_)
  | (go_at_call 108; refine (HU.out _).mono ?_; rintro e w2 ⟨rfl, hk2⟩; have HK2 := H_ hk2; have hbs := hk2.blk HB.out.1.1 (fun h => h); have s0 := (hbs.cell 0).trans HC0.out; have s1 := (hbs.cell 1).trans HC1.out; clear hk2 hbs)
  | (go_at_call 107; refine (refuse_no _ _).mono ?_; rintro e w3 ⟨he, rfl⟩; unfold errP at he; subst he))
 have hbe := HK2.out.blk HB.out.1.2 (fun h => h)
 refine leaves_cons (f := 106) (args := #[.pointer (some ⟨w.heap.size + 1, 0, none⟩)]) (by simp) (by simp [go_sem]) ?_
 refine (do_catch (w.heap.size + 1) 2 [] _ hbe).mono ?_
 rintro e u' w'' ⟨rfl, rfl, hb, hk⟩
 refine ⟨_, results_err rfl _ _ _ _ rfl hb, ?_⟩
 have hd : doF P s = .inl 2 := by simp [doF, hu]
 unfold DoPost
 rw [hd]
 exact ⟨rfl, (HB.out.2.trans HK2.out (fun _ _ h => h)).trans hk (fun i hi e => by omega)⟩
theorem do_null (T : TypeId) (D : Nat → Prop) (w : World) (p : Nat) (A : Option Addr) (c : Nat) (vs : List Value) (P : List JV) (h : RowAt T D w p A c vs P) (hn : P.length ≤ 1048576) (s : StepV) (B : Option Addr) (d : Nat) (hu : usedF s = true) (hs : s.sort = 1) :
  Calls Tryz.prog 55 #[.pointer (some ⟨p, 0, none⟩), .agg (stepV s B d).toArray] w (DoPost T D w p (.slice A P.length c) P s) := by
 obtain ⟨SV, hSV⟩ : ∃ SV, SV = stepV s B d := ⟨_, rfl⟩
 have HC0 : Hid (SV[0]? = some (.int .i64 1)) := H_ (by rw [hSV, ← hs]; rfl)
 have HC1 : Hid (SV[1]? = some (.bool s.flag)) := H_ (by rw [hSV]; rfl)
 have HU : Hid (∀ W, Calls Tryz.prog 108 #[.agg SV.toArray] W fun e w' => e = .returned (.bool true) ∧ Keeps (fun _ => False) W w') := H_ fun W => by
  have := used_any W s B d
  rw [hu, ← hSV] at this
  exact this
 have HSL : Hid (SV.length = 6) := H_ (by rw [hSV]; rfl)
 have HSI : Hid ((Tryz.prog.info? 131).map (·.size) = some SV.length) := H_ (by rw [HSL.out]; kernel_rfl)
 have HR := H_ h
 have hb1 := (Blk.new w 131 SV).alloc (.cells #[.nilIface] 32)
 have hb2 := Blk.new (w.alloc (.cells SV.toArray 131)) 32 [.nilIface]
 rw [World.size_alloc] at hb2
 have HB := H_ (And.intro (And.intro hb1 hb2) (((Keeps.refl (fun _ => False) w).alloc (.cells SV.toArray 131)).alloc (.cells #[.nilIface] 32)))
 have hmf : ∀ (fn : Fn) (first cap : Array Value) (w : World), (Instr.makeFunc fn first cap).run Tryz.prog w = .ok (.func fn first cap) w := fun _ _ _ _ => rfl
 have hlt := h.blk.lt
 rw [← hSV]
 clear h hb1 hb2 hSV
 have HP : Hid (∀ W, Keeps (fun _ => False) w W → Calls Tryz.prog 109 #[.pointer (some ⟨p, 0, none⟩), .iface 217 (.agg #[])] W fun e w' => e = .returned (.tuple #[]) ∧ RowPost T D W p (.slice A P.length c) (P ++ [JV.null]) w') := H_ fun W hW =>
  put_null T D W p A c vs P (HR.out.stay hW) hn .null true (by decide)
 have hrow := HR.out.ne_own
 have hol : ∀ g, (Value.slice A P.length c).ownBlock = some g → g < w.heap.size := fun g hg => (HR.out.own.lt g hg).2
 have HEB : Hid (∀ W w', Keeps (fun _ => False) ((w.alloc (.cells SV.toArray 131)).alloc (.cells #[.nilIface] 32)) W → Keeps (fun i => i = p ∨ (Value.slice A P.length c).ownBlock = some i) W w' → Blk w' (w.heap.size + 1) 32 [.nilIface]) := H_ fun W w' hW hk =>
  hk.blk (hW.blk HB.out.1.2 (fun h => h)) (fun e => by
   rcases e with e | e
   ·omega
   ·have := hol _ e; omega)
 clear hrow hol
 go_enter_defers Tryz.func55, Tryz.ntmps55
 go_wp2_with (first
  | ((with_reducible show wpList _ _ _ (⟨some 8, _, _, _, _, _⟩ :: _) _ _); refine wpList_load_whole rfl 131 _ rfl _ rfl HB.out.1.1 Tryz.underlying131 rfl HSI.out ?_)
  | (go_at_call 108; refine (HU.out _).mono ?_; rintro e w2 ⟨rfl, hk2⟩; have HK2 := H_ hk2; have hbs := hk2.blk HB.out.1.1 (fun h => h); have s0 := (hbs.cell 0).trans HC0.out; have s1 := (hbs.cell 1).trans HC1.out; clear hk2 hbs)
  | (go_at_call 107; refine (refuse_ok _ _).mono ?_; rintro e w3 ⟨he, rfl⟩; subst he)
  | (go_at_call 109; refine (HP.out _ (HB.out.2.trans HK2.out (fun _ _ h => h))).mono ?_; rintro e w4 ⟨rfl, hr4⟩; have hbe := HEB.out _ _ HK2.out hr4.2; have HR4 := H_ hr4; have HBE := H_ hbe; have c0 := hbe.cell 0; have f0 := hbe.frozen 0; clear hr4 hbe))
 rw [set_same HBE.out]
 refine leaves_cons (f := 106) (args := #[.pointer (some ⟨w.heap.size + 1, 0, none⟩)]) (by simp) (by simp [go_sem]) ?_
 refine (do_idle ⟨w.heap.size + 1, 0, none⟩ _).mono ?_
 rintro e u' w'' ⟨rfl, rfl, rfl⟩
 refine ⟨_, results_err rfl _ _ _ _ rfl HBE.out, ?_⟩
 have hd : doF P s = .inr (P ++ [JV.null]) := do_scalar P s (JV.null) hu (by omega) (by simp [mkV, hs]) trivial (by simp [JV.within, JV.nodes, JV.bytes, JV.deep])
 unfold DoPost
 rw [hd]
 exact ⟨rfl, HR4.out.1, ((HB.out.2.trans HK2.out (fun _ _ h => h)).mono (fun _ _ h => h.elim)).trans HR4.out.2 (fun _ _ h => h)⟩
theorem do_flag (T : TypeId) (D : Nat → Prop) (w : World) (p : Nat) (A : Option Addr) (c : Nat) (vs : List Value) (P : List JV) (h : RowAt T D w p A c vs P) (hn : P.length ≤ 1048576) (s : StepV) (B : Option Addr) (d : Nat) (hu : usedF s = true) (hs : s.sort = 2) :
  Calls Tryz.prog 55 #[.pointer (some ⟨p, 0, none⟩), .agg (stepV s B d).toArray] w (DoPost T D w p (.slice A P.length c) P s) := by
 obtain ⟨SV, hSV⟩ : ∃ SV, SV = stepV s B d := ⟨_, rfl⟩
 have HC0 : Hid (SV[0]? = some (.int .i64 2)) := H_ (by rw [hSV, ← hs]; rfl)
 have HC1 : Hid (SV[1]? = some (.bool s.flag)) := H_ (by rw [hSV]; rfl)
 have HU : Hid (∀ W, Calls Tryz.prog 108 #[.agg SV.toArray] W fun e w' => e = .returned (.bool true) ∧ Keeps (fun _ => False) W w') := H_ fun W => by
  have := used_any W s B d
  rw [hu, ← hSV] at this
  exact this
 have HSL : Hid (SV.length = 6) := H_ (by rw [hSV]; rfl)
 have HSI : Hid ((Tryz.prog.info? 131).map (·.size) = some SV.length) := H_ (by rw [HSL.out]; kernel_rfl)
 have HR := H_ h
 have hb1 := (Blk.new w 131 SV).alloc (.cells #[.nilIface] 32)
 have hb2 := Blk.new (w.alloc (.cells SV.toArray 131)) 32 [.nilIface]
 rw [World.size_alloc] at hb2
 have HB := H_ (And.intro (And.intro hb1 hb2) (((Keeps.refl (fun _ => False) w).alloc (.cells SV.toArray 131)).alloc (.cells #[.nilIface] 32)))
 have hmf : ∀ (fn : Fn) (first cap : Array Value) (w : World), (Instr.makeFunc fn first cap).run Tryz.prog w = .ok (.func fn first cap) w := fun _ _ _ _ => rfl
 have hlt := h.blk.lt
 rw [← hSV]
 clear h hb1 hb2 hSV
 have HP : Hid (∀ W, Keeps (fun _ => False) w W → Calls Tryz.prog 109 #[.pointer (some ⟨p, 0, none⟩), .iface 218 (.bool s.flag)] W fun e w' => e = .returned (.tuple #[]) ∧ RowPost T D W p (.slice A P.length c) (P ++ [JV.flag s.flag]) w') := H_ fun W hW =>
  put_flag T D W p A c vs P (HR.out.stay hW) hn s.flag (.flag _) true (by decide)
 have hrow := HR.out.ne_own
 have hol : ∀ g, (Value.slice A P.length c).ownBlock = some g → g < w.heap.size := fun g hg => (HR.out.own.lt g hg).2
 have HEB : Hid (∀ W w', Keeps (fun _ => False) ((w.alloc (.cells SV.toArray 131)).alloc (.cells #[.nilIface] 32)) W → Keeps (fun i => i = p ∨ (Value.slice A P.length c).ownBlock = some i) W w' → Blk w' (w.heap.size + 1) 32 [.nilIface]) := H_ fun W w' hW hk =>
  hk.blk (hW.blk HB.out.1.2 (fun h => h)) (fun e => by
   rcases e with e | e
   ·omega
   ·have := hol _ e; omega)
 clear hrow hol
 go_enter_defers Tryz.func55, Tryz.ntmps55
 go_wp2_with (first
  | ((with_reducible show wpList _ _ _ (⟨some 8, _, _, _, _, _⟩ :: _) _ _); refine wpList_load_whole rfl 131 _ rfl _ rfl HB.out.1.1 Tryz.underlying131 rfl HSI.out ?_)
  | (go_at_call 108; refine (HU.out _).mono ?_; rintro e w2 ⟨rfl, hk2⟩; have HK2 := H_ hk2; have hbs := hk2.blk HB.out.1.1 (fun h => h); have s0 := (hbs.cell 0).trans HC0.out; have s1 := (hbs.cell 1).trans HC1.out; clear hk2 hbs)
  | (go_at_call 107; refine (refuse_ok _ _).mono ?_; rintro e w3 ⟨he, rfl⟩; subst he)
  | (go_at_call 109; refine (HP.out _ (HB.out.2.trans HK2.out (fun _ _ h => h))).mono ?_; rintro e w4 ⟨rfl, hr4⟩; have hbe := HEB.out _ _ HK2.out hr4.2; have HR4 := H_ hr4; have HBE := H_ hbe; have c0 := hbe.cell 0; have f0 := hbe.frozen 0; clear hr4 hbe))
 rw [set_same HBE.out]
 refine leaves_cons (f := 106) (args := #[.pointer (some ⟨w.heap.size + 1, 0, none⟩)]) (by simp) (by simp [go_sem]) ?_
 refine (do_idle ⟨w.heap.size + 1, 0, none⟩ _).mono ?_
 rintro e u' w'' ⟨rfl, rfl, rfl⟩
 refine ⟨_, results_err rfl _ _ _ _ rfl HBE.out, ?_⟩
 have hd : doF P s = .inr (P ++ [JV.flag s.flag]) := do_scalar P s (JV.flag s.flag) hu (by omega) (by simp [mkV, hs]) trivial (by simp [JV.within, JV.nodes, JV.bytes, JV.deep])
 unfold DoPost
 rw [hd]
 exact ⟨rfl, HR4.out.1, ((HB.out.2.trans HK2.out (fun _ _ h => h)).mono (fun _ _ h => h.elim)).trans HR4.out.2 (fun _ _ h => h)⟩
end Go.Proofs.YtplleficmkfniaaGreatDoor
