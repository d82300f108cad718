/- Texts. -/
import Derived.Test.YtdmcioghdindfaaGreatDoorL29
import Derived.Shelf.Slices.CompactS
import Derived.Shelf.Slices.Cells
import Derived.Lib.SlicesCompact
import Derived.Lib.RowBridge
import Derived.Deep.MidRow
set_option linter.unusedSimpArgs false
set_option maxRecDepth 100000
set_option maxHeartbeats 4000000
namespace Go.Json
end Go.Json
namespace Go.Aff
open Go Go.RowKit
end Go.Aff
namespace Go.Proofs.YtdmcioghdindfaaGreatDoor
open Go Go.RowKit Go.Aff Go.Json
attribute [local go_sem] Oper.semAt_some
theorem errno_three (w : World) : Calls Tryz.prog 12 #[errE 3, .int .i64 3] w fun e w' => e = .returned (.bool true) ∧ w' = w := by
 have HA := as_errno_errno
 unfold errE
 go_enter Tryz.func12, Tryz.ntmps12
 go_wp2
 go_ret
 exact ⟨rfl, rfl⟩
end Go.Proofs.YtdmcioghdindfaaGreatDoor
namespace Go.Proofs
open Go.Shelf
def Tryz.lays194_ren : Go.Shelf.Ren := ⟨fun | 194 => 62 | n => n, fun | 31 => 29 | 9 => 9 | 3 => 3 | 4 => 4 | 0 => 0 | n => n, fun | n => n⟩
theorem Tryz.lays194 : Go.Proofs.Lays.n194 Tryz.prog Tryz.lays194_ren := {
 mixed := by kernel_rfl
 f194 := Tryz.func62.trans (congrArg some (by kernel_rfl))
 t0 := Tryz.underlying0
 a0 := Tryz.isAgg0
 z0 := Tryz.sizeOf0
 v0 := Tryz.zeroValue0
 t3 := Tryz.underlying3
 a3 := Tryz.isAgg3
 z3 := Tryz.sizeOf3
 v3 := Tryz.zeroValue3
 t4 := Tryz.underlying4
 a4 := Tryz.isAgg4
 z4 := Tryz.sizeOf4
 v4 := Tryz.zeroValue4
 t9 := Tryz.underlying9
 a9 := Tryz.isAgg9
 z9 := Tryz.sizeOf9
 v9 := Tryz.zeroValue9
 t31 := Tryz.underlying29
 a31 := Tryz.isAgg29
 z31 := Tryz.sizeOf29
 v31 := Tryz.zeroValue29 }
open Go.RowKit Go.Lib Go.Sort in
theorem Tryz.slices_Compact_string_cells (b off n c : Nat) (Sx : Nat → ByteArray) (w : World) (hbig : n ≤ 9223372036854775807) (hcap : n ≤ c) (hc : ∀ i, i < n → w.cell? ⟨b, off + i, none⟩ = some (.string (Sx i))) (hf : ∀ j, j < n → w.frozen? ⟨b, off + j, none⟩ = false) :
  Calls Tryz.prog 62 #[.slice (some ⟨b, off, none⟩) n c] w fun e w' => e = .returned (.slice (some ⟨b, off, none⟩) (Lib.compact (Lib.strsOf Sx n)).length c) ∧ ∃ q, w' = (w.drewN q).setCells b off ((Lib.compact (Lib.strsOf Sx n) ++ List.replicate (n - (Lib.compact (Lib.strsOf Sx n)).length) []).map encStr) := Any.slices_Compact_string_cells Tryz.lays194 b off n c Sx w hbig hcap hc hf
end Go.Proofs
namespace Go.Proofs.YtdmcioghdindfaaGreatDoor
open Go Go.RowKit Go.Aff Go.Json Go.Rng Go.Shelf
attribute [local go_sem] Oper.semAt_some
theorem as_whole_whole (v : Value) (w : World) : (Instr.typeAssert (.iface 150 v) 71 150 true).run Tryz.prog w = .ok (.tuple #[v, .bool true]) w := by kernel_rfl
theorem as_mobj_whole (v : Value) (w : World) : (Instr.typeAssert (.iface 73 v) 71 150 true).run Tryz.prog w = .ok (.tuple #[.agg #[.nilIface], .bool false]) w := by kernel_rfl
theorem as_whole_mobj (v : Value) (w : World) : (Instr.typeAssert (.iface 150 v) 71 73 true).run Tryz.prog w = .ok (.tuple #[.pointer none, .bool false]) w := by kernel_rfl
theorem as_mobj_mobj (v : Value) (w : World) : (Instr.typeAssert (.iface 73 v) 71 73 true).run Tryz.prog w = .ok (.tuple #[v, .bool true]) w := by kernel_rfl
def NullPost (w : World) (j : JV) (e : Ending) (w' : World) : Prop := e = .returned (.bool (j.sort == 1)) ∧ Keeps (fun _ => False) w w'
theorem isnull_any {D : Nat → Prop} (w : World) (t : Value) (j : JV) (h : TAt D w t j) : Calls Tryz.prog 86 #[t] w (NullPost w j) := by
 cases h with
 | @whole it j hj hs =>
  obtain ⟨T, y, hv⟩ := hj.iface
  subst hv
  have HSO : Hid (∀ W, Calls Tryz.prog 66 #[.agg #[.iface T y]] W fun e w' => e = .returned (.int .i64 j.sort) ∧ Keeps (fun _ => False) W w') := H_ fun W => refsort_any hj W
  obtain ⟨n, hn⟩ : ∃ n, n = j.sort := ⟨_, rfl⟩
  unfold NullPost
  rw [← hn] at HSO ⊢
  clear hj hs hn
  have HA := as_whole_whole (.agg #[.iface T y])
  go_enter Tryz.func86, Tryz.ntmps86
  have HB0 := H_ (Blk.new w 150 [.nilIface])
  have HB1 := H_ (Blk.new w 150 [.iface T y])
  have c0 := HB1.out.cell 0
  have f0 := HB0.out.frozen 0
  go_wp2_with (go_at_call 66; refine (HSO.out _).mono ?_; rintro e w2 ⟨rfl, hk2⟩; have HK2 := H_ hk2; clear hk2)
  all_goals go_ret
  all_goals exact ⟨rfl, ((Keeps.refl (fun _ => False) w).alloc (.cells #[.iface T y] 150)).trans HK2.out (fun _ _ h => h)⟩
 | @obj b A B c d vs ks l rf hD hb hrf hk2 hok hr ho hl =>
  have HA := as_mobj_whole (.pointer (some ⟨b, 0, none⟩))
  have HB0 := H_ (Blk.new w 150 [.nilIface])
  have f0 := HB0.out.frozen 0
  clear hD hb hrf hk2 hok hr ho hl
  go_enter Tryz.func86, Tryz.ntmps86
  go_wp2
  all_goals go_ret
  all_goals exact ⟨rfl, (Keeps.refl (fun _ => False) w).alloc (.cells #[.nilIface] 150)⟩
end Go.Proofs.YtdmcioghdindfaaGreatDoor
namespace Go.Json
open Go.Utf
theorem lex_zero : ∀ {a b : List Int}, lexR a b = 0 → a = b
 | [], [], _ => rfl
 | [], _ :: _, h => by simp [lexR] at h
 | _ :: _, [], h => by simp [lexR] at h
 | x :: a, y :: b, h => by
  unfold lexR at h
  split at h
  ·omega
  split at h
  ·omega
  rw [lex_zero h, show x = y by omega]
theorem cmp_zero {a b : ByteArray} (ha : rightS a = true) (hb : rightS b = true) : cmpB (sb a) (sb b) = 0 ↔ a = b := by
 constructor
 ·intro h
  rcases ltS_tri ha hb with h1 | h1 | h1
  ·have := (cmp_lt ha hb).2 h1; omega
  ·exact h1
  have h2 := (cmp_lt hb ha).2 h1
  rw [cmp_eq ha hb] at h
  rw [cmp_eq hb ha, ← lex_zero h, lex_self] at h2
  omega
 intro h
 rw [h, cmp_eq hb hb, lex_self]
theorem place_at {ks : List ByteArray} {key : ByteArray} {i : Nat} (hp : ks.Pairwise ltS) (h1 : ∀ t s, t < i → ks[t]? = some s → ltS s key) (h2 : ∀ s, ks[i]? = some s → ¬ ltS s key ∧ s ≠ key) : key ∉ ks := by
 intro hm
 obtain ⟨t, ht⟩ := List.getElem?_of_mem hm
 rcases Nat.lt_trichotomy t i with h | h | h
 ·exact ltS_irrefl key (h1 t key h ht)
 ·subst h; exact (h2 key ht).2 rfl
 obtain ⟨s, hs⟩ : ∃ s, ks[i]? = some s := ⟨_, List.getElem?_eq_getElem (Nat.lt_trans h (List.getElem?_eq_some_iff.1 ht).1)⟩
 have hlt := List.pairwise_iff_getElem.1 hp i t (List.getElem?_eq_some_iff.1 hs).1 (List.getElem?_eq_some_iff.1 ht).1 h
 rw [(List.getElem?_eq_some_iff.1 hs).2, (List.getElem?_eq_some_iff.1 ht).2] at hlt
 exact (h2 s hs).1 hlt
end Go.Json
namespace Go.Proofs.YtdmcioghdindfaaGreatDoor
open Go Go.RowKit Go.Aff Go.Json Go.Rng Go.Shelf Go.Utf
attribute [local go_sem] Oper.semAt_some
def FindPost (w : World) (ks : List ByteArray) (key : ByteArray) (e : Ending) (w' : World) : Prop := ∃ (i : Nat) (f : Bool), e = .returned (.tuple #[.int .i64 i, .bool f]) ∧ (f = true → ks[i]? = some key) ∧ (f = false → key ∉ ks) ∧ Keeps (fun _ => False) w w'
theorem search_any (w : World) (B : Option Addr) (n d : Nat) (ks : List ByteArray) (hr : Rd w B n (ks.map .string)) (hp : ks.Pairwise ltS) (hright : ∀ s ∈ ks, rightS s = true ∧ s.size ≤ 1152921504606846976) (key : ByteArray) (hkey : rightS key = true ∧ key.size ≤ 1152921504606846976) (hn : n ≤ 1048576) :
  Calls Tryz.prog 106 #[.slice B n d, .string key, .func (.func 61) #[] #[]] w (FindPost w ks key) := by
 have hkl : ks.length = n := by simpa using hr.1
 have HR := H_ hr
 have HP := H_ (And.intro hp hkl)
 have HRI := H_ hright
 have hent : ∀ args w, (callFunc 61 args).run Tryz.prog w = .ok (.enter 61 args) w := enters_of Tryz.func61 (by kernel_rfl) rfl
 have HC : Hid (∀ W s, s ∈ ks → Calls Tryz.prog 61 #[.string s, .string key] W fun e w' => e = .returned (.int .i64 (cmpB (sb s) (sb key))) ∧ Hid (Keeps (fun _ => False) W w')) := H_ fun W s hs =>
  (compare_any W s key (hright s hs).1 hkey.1 (hright s hs).2 hkey.2).mono fun _ _ h => ⟨h.1, H_ h.2.keeps⟩
 have HKY := H_ hkey
 clear hr hp hright hkey hkl
 go_enter Tryz.func106, Tryz.ntmps106
 go_wp2
 go_loopg [9, 10] n (fun kx s9 s10 wr => ∃ lo hi : Nat, s9 = .int .i64 lo ∧ s10 = .int .i64 hi ∧ lo ≤ hi ∧ hi ≤ n ∧ hi - lo ≤ kx ∧ Hid (Keeps (fun _ => False) w wr) ∧ Hid ((∀ t s, t < lo → ks[t]? = some s → ltS s key) ∧ (∀ t s, hi ≤ t → ks[t]? = some s → ¬ ltS s key)))
 case atStart => exact ⟨0, n, rfl, rfl, Nat.zero_le _, Nat.le_refl _, by omega, H_ (Keeps.refl _ _), H_ ⟨fun t s ht => absurd ht (Nat.not_lt_zero _), fun t s h1 h2 => by have := (List.getElem?_eq_some_iff.1 h2).1; have := HP.out.2; omega⟩⟩
 case round =>
  obtain ⟨lo, hi, rfl, rfl, hlh, hin, hg, HK, HI⟩ := hrel
  by_cases hlt : lo < hi
  ·obtain ⟨g, o, s, hB, hs, hcs⟩ := textAt (HR.out.keep HK.out (fun _ _ _ h => h)) (j := (lo + hi) / 2) (by omega)
   subst hB
   have hc := HC.out wr s (List.mem_of_getElem? hs)
   have HS := H_ hs
   have hleft : ∀ t u, t < (lo + hi) / 2 → ks[t]? = some u → ltS u s := fun t u ht hu => by
    have h1 := List.pairwise_iff_getElem.1 HP.out.1 t _ (List.getElem?_eq_some_iff.1 hu).1 (List.getElem?_eq_some_iff.1 hs).1 ht
    rwa [(List.getElem?_eq_some_iff.1 hu).2, (List.getElem?_eq_some_iff.1 hs).2] at h1
   have hright : ∀ t u, (lo + hi) / 2 < t → ks[t]? = some u → ltS s u := fun t u ht hu => by
    have h1 := List.pairwise_iff_getElem.1 HP.out.1 _ t (List.getElem?_eq_some_iff.1 hs).1 (List.getElem?_eq_some_iff.1 hu).1 ht
    rwa [(List.getElem?_eq_some_iff.1 hu).2, (List.getElem?_eq_some_iff.1 hs).2] at h1
   have HLR := H_ (And.intro hleft hright)
   obtain ⟨z, hz⟩ : ∃ z, z = cmpB (sb s) (sb key) := ⟨_, rfl⟩
   have HZ : Hid (z < 0 ↔ ltS s key) := H_ (by rw [hz]; exact cmp_lt (HRI.out s (List.mem_of_getElem? hs)).1 HKY.out.1)
   rw [← hz] at hc
   clear hs hz hleft hright
   by_cases hyx : z < 0
   ·have HL : Hid (ltS s key) := H_ (HZ.out.1 hyx)
    go_wp2_with (go_at_fn 61; refine hc.mono ?_; rintro e w2 ⟨rfl, HK2⟩)
    go_roundg (hi - ((lo + hi) / 2 + 1))
    case measure => omega
    case rel =>
     have HI2 : Hid ((∀ t s, t < (lo + hi) / 2 + 1 → ks[t]? = some s → ltS s key) ∧ (∀ t s, hi ≤ t → ks[t]? = some s → ¬ ltS s key)) := H_ ⟨fun t u ht hu => by
      rcases Nat.lt_or_ge t ((lo + hi) / 2) with h | h
      ·exact ltS_trans (HLR.out.1 t u h hu) HL.out
      obtain rfl : t = (lo + hi) / 2 := by omega
      rw [HS.out] at hu; injection hu with hu; rw [← hu]; exact HL.out, HI.out.2⟩
     exact ⟨(lo + hi) / 2 + 1, hi, by rw [show ((lo : Int) + (hi : Int)) / 2 + 1 = (((lo + hi) / 2 + 1 : Nat) : Int) by omega], rfl, by omega, hin, Nat.le_refl _, H_ (HK.out.trans HK2.out fun _ _ h => h), HI2⟩
   have HL : Hid (¬ ltS s key) := H_ fun h => hyx (HZ.out.2 h)
   go_wp2_with (go_at_fn 61; refine hc.mono ?_; rintro e w2 ⟨rfl, HK2⟩)
   go_roundg ((lo + hi) / 2 - lo)
   case measure => omega
   case rel =>
    have HI2 : Hid ((∀ t s, t < lo → ks[t]? = some s → ltS s key) ∧ (∀ t s, (lo + hi) / 2 ≤ t → ks[t]? = some s → ¬ ltS s key)) := H_ ⟨HI.out.1, fun t u ht hu h => by
     rcases Nat.lt_or_ge ((lo + hi) / 2) t with h2 | h2
     ·exact HL.out (ltS_trans (HLR.out.2 t u h2 hu) h)
     obtain rfl : t = (lo + hi) / 2 := by omega
     rw [HS.out] at hu; injection hu with hu; rw [← hu] at h; exact HL.out h⟩
    exact ⟨lo, (lo + hi) / 2, rfl, by rw [show ((lo : Int) + (hi : Int)) / 2 = (((lo + hi) / 2 : Nat) : Int) by omega], by omega, by omega, Nat.le_refl _, H_ (HK.out.trans HK2.out fun _ _ h => h), HI2⟩
  obtain rfl : hi = lo := by omega
  by_cases hnn : hi < n
  ·obtain ⟨g, o, s, hB, hs, hcs⟩ := textAt (HR.out.keep HK.out (fun _ _ _ h => h)) (j := hi) hnn
   subst hB
   have hc := HC.out wr s (List.mem_of_getElem? hs)
   obtain ⟨z, hz⟩ : ∃ z, z = cmpB (sb s) (sb key) := ⟨_, rfl⟩
   have HZ : Hid (z = 0 ↔ s = key) := H_ (by rw [hz]; exact cmp_zero (HRI.out s (List.mem_of_getElem? hs)).1 HKY.out.1)
   rw [← hz] at hc
   have HS := H_ hs
   clear hs hz
   go_wp2_with (go_at_fn 61; refine hc.mono ?_; rintro e w2 ⟨rfl, HK2⟩)
   go_ret2
   refine ⟨hi, z == 0, rfl, fun h => ?_, fun h => ?_, HK.out.trans HK2.out fun _ _ h => h⟩
   ·rw [HS.out, HZ.out.1 (by simpa using h)]
   refine place_at HP.out.1 HI.out.1 fun u hu => ⟨HI.out.2 hi u (Nat.le_refl _) hu, ?_⟩
   rw [HS.out] at hu
   injection hu with hu
   rw [← hu]
   exact fun e => by rw [HZ.out.2 e] at h; simp at h
  go_wp2
  go_ret2
  refine ⟨hi, false, rfl, fun h => by simp at h, fun _ => place_at HP.out.1 HI.out.1 fun u hu => absurd (List.getElem?_eq_some_iff.1 hu).1 (by have := HP.out.2; omega), HK.out⟩
end Go.Proofs.YtdmcioghdindfaaGreatDoor
namespace Go.Json
def getJ (ks : List ByteArray) (l : List JV) (key : ByteArray) : Option JV := (ks.findIdx? fun k => decide (k = key)).bind fun i => l[i]?
theorem getJ_none {ks : List ByteArray} {l : List JV} {key : ByteArray} (h : key ∉ ks) : getJ ks l key = none := by
 unfold getJ
 rw [List.findIdx?_eq_none_iff.2 fun x hx => decide_eq_false fun (e : x = key) => h (by rw [← e]; exact hx)]; rfl
theorem getJ_some {ks : List ByteArray} {l : List JV} {key : ByteArray} {i : Nat} (hp : ks.Pairwise ltS) (h : ks[i]? = some key) : getJ ks l key = l[i]? := by
 obtain ⟨hi, he⟩ := List.getElem?_eq_some_iff.1 h
 have : (ks.findIdx? fun k => decide (k = key)) = some i := by
  rw [List.findIdx?_eq_some_iff_getElem]
  refine ⟨hi, by simp [he], fun j hj => ?_⟩
  have h1 := List.pairwise_iff_getElem.1 hp j i (by omega) hi hj
  have hne : ks[j] ≠ key := fun e => by rw [e, he] at h1; exact ltS_irrefl key h1
  simpa using hne
 unfold getJ
 rw [this]; rfl
def memJ : Option JV → List ByteArray × List JV
 | some (.obj ks l) => (ks, l)
 | _ => ([], [])
end Go.Json
namespace Go.Proofs.YtdmcioghdindfaaGreatDoor
open Go Go.RowKit Go.Aff Go.Json Go.Rng
attribute [local go_sem] Oper.semAt_some
def OAt (D : Nat → Prop) (w : World) (v : Value) : Option JV → Prop
 | none => v = .nilIface
 | some j => TAt D w v j
theorem as_nil_mobj (w : World) : (Instr.typeAssert .nilIface 71 73 true).run Tryz.prog w = .ok (.tuple #[.pointer none, .bool false]) w := by kernel_rfl
theorem obj_new (D : Nat → Prop) (w : World) (hD : ∀ i, w.heap.size ≤ i → D i) : TAt D (w.alloc (.cells #[.nilIface, .slice none 0 0, .slice none 0 0] 84)) (.iface 73 (.pointer (some ⟨w.heap.size, 0, none⟩))) (.obj [] []) :=
 (ObS.start D w).thing hD
theorem members_any {D : Nat → Prop} (w : World) (v : Value) (o : Option JV) (h : OAt D w v o) : Calls Tryz.prog 31 #[v] w fun e w' => ∃ b, e = .returned (.pointer (some ⟨b, 0, none⟩)) ∧ TAt (fun i => D i ∨ w.heap.size ≤ i) w' (.iface 73 (.pointer (some ⟨b, 0, none⟩))) (.obj (memJ o).1 (memJ o).2) ∧ Keeps (fun _ => False) w w' := by
 have HNW := H_ (And.intro (obj_new (fun i => D i ∨ w.heap.size ≤ i) w fun i h => .inr h) ((Keeps.refl (fun _ => False) w).alloc (.cells #[.nilIface, .slice none 0 0, .slice none 0 0] 84)))
 have fin : ∀ A : Value, A = v → (∀ W, (Instr.typeAssert A 71 73 true).run Tryz.prog W = .ok (.tuple #[.pointer none, .bool false]) W) → memJ o = ([], []) → Calls Tryz.prog 31 #[v] w fun e w' => ∃ b, e = .returned (.pointer (some ⟨b, 0, none⟩)) ∧ TAt (fun i => D i ∨ w.heap.size ≤ i) w' (.iface 73 (.pointer (some ⟨b, 0, none⟩))) (.obj (memJ o).1 (memJ o).2) ∧ Keeps (fun _ => False) w w' := fun A hA ha hm => by
  rw [hm]
  rw [hA] at ha
  clear hm hA h
  go_enter Tryz.func31, Tryz.ntmps31
  go_wp2
  go_ret
  exact ⟨_, rfl, HNW.out.1, HNW.out.2⟩
 cases o with
 | none => exact fin .nilIface h.symm as_nil_mobj rfl
 | some j =>
  have h' : TAt D w v j := h
  cases h' with
  | @whole it j hj hs => exact fin _ rfl (as_whole_mobj _) (by cases j <;> first | rfl | exact absurd rfl hs)
  | @obj b A B c d vs ks l rf hDb hb hrf hk2 hok hr ho hl =>
   have HT : Hid (TAt D w (.iface 73 (.pointer (some ⟨b, 0, none⟩))) (.obj ks l)) := H_ h
   have HA := as_mobj_mobj (.pointer (some ⟨b, 0, none⟩))
   clear h fin hDb hb hrf hk2 hok hr ho hl
   go_enter Tryz.func31, Tryz.ntmps31
   go_wp2
   go_ret
   exact ⟨_, rfl, HT.out.mono fun i hi _ => .inl hi, Keeps.refl _ _⟩
theorem find_any {D : Nat → Prop} (w : World) (b : Nat) (ks : List ByteArray) (l : List JV) (h : TAt D w (.iface 73 (.pointer (some ⟨b, 0, none⟩))) (.obj ks l)) (hp : ks.Pairwise ltS) (hright : ∀ s ∈ ks, rightS s = true ∧ s.size ≤ 1152921504606846976) (key : ByteArray) (hkey : rightS key = true ∧ key.size ≤ 1152921504606846976) (hn : ks.length ≤ 1048576) :
  Calls Tryz.prog 63 #[.pointer (some ⟨b, 0, none⟩), .string key] w (FindPost w ks key) := by
 cases h with
 | @obj b A B c d vs ks l rf hDb hb hrf hk2 hok hr ho hl =>
  have HS := H_ (search_any w B ks.length d ks hk2 hp hright key hkey hn)
  obtain ⟨n, hnn⟩ : ∃ n, n = ks.length := ⟨_, rfl⟩
  rw [← hnn] at HS hb
  have c1 := hb.cell 1
  clear hDb hb hrf hk2 hok hr ho hl hp hright hkey hn hnn
  unfold FindPost at HS ⊢
  go_enter Tryz.func63, Tryz.ntmps63
  go_wp2_with (go_at_call 106; refine HS.out.mono ?_; rintro e w2 ⟨i, f, rfl, h2⟩; have H2 := H_ h2; clear h2)
  go_ret2
  exact ⟨i, f, rfl, H2.out⟩
theorem get_any {D : Nat → Prop} (w : World) (b : Nat) (ks : List ByteArray) (l : List JV) (h : TAt D w (.iface 73 (.pointer (some ⟨b, 0, none⟩))) (.obj ks l)) (hl : ks.length = l.length) (hp : ks.Pairwise ltS) (hright : ∀ s ∈ ks, rightS s = true ∧ s.size ≤ 1152921504606846976) (key : ByteArray) (hkey : rightS key = true ∧ key.size ≤ 1152921504606846976) (hn : ks.length ≤ 1048576) :
  Calls Tryz.prog 33 #[.pointer (some ⟨b, 0, none⟩), .string key] w fun e w' => ∃ v, e = .returned v ∧ OAt D w' v (getJ ks l key) ∧ v.oneCell' = true ∧ Keeps (fun _ => False) w w' := by
 have HF := H_ (find_any w b ks l h hp hright key hkey hn)
 unfold FindPost at HF
 have HP := H_ hp
 cases h with
 | @obj b A B c d vs ks l rf hDb hb hrf hk2 hok hr ho hm =>
  have HB := H_ hb
  have HR := H_ hr
  have HM := H_ hm
  have HL := H_ hl
  clear hDb hb hrf hk2 hok hr ho hm hl hp hright hkey hn
  go_enter Tryz.func33, Tryz.ntmps33
  go_upto_region 2 with (go_at_call 63; refine HF.out.mono ?_; rintro e w2 ⟨i, f, rfl, h2⟩; have H2 := H_ h2; clear h2)
  cases f with
  | false =>
   have HG : Hid (getJ ks l key = none) := H_ (getJ_none (H2.out.2.1 rfl))
   go_wp2
   go_ret
   exact ⟨_, rfl, by rw [HG.out]; rfl, rfl, H2.out.2.2⟩
  | true =>
   have hki := H2.out.1 rfl
   have hin : i < l.length := by rw [← HL.out]; exact (List.getElem?_eq_some_iff.1 hki).1
   have HG : Hid (getJ ks l key = l[i]?) := H_ (getJ_some HP.out hki)
   obtain ⟨v, hv⟩ : ∃ v, vs[i]? = some v := ⟨_, List.getElem?_eq_getElem (by rw [HR.out.1]; exact hin)⟩
   obtain ⟨x, hx⟩ : ∃ x, l[i]? = some x := ⟨_, List.getElem?_eq_getElem hin⟩
   have htx := (HM.out i v x hv hx).stay H2.out.2.2
   obtain ⟨T, y, hvy⟩ := htx.iface
   subst hvy
   obtain ⟨g, o, hA, hc⟩ := (HR.out.keep H2.out.2.2 (fun _ _ _ h => h)).2 (by omega)
   subst hA
   have hcv := hc i hin
   rw [hv] at hcv
   have c2 := (H2.out.2.2.blk HB.out (fun h => h)).cell 2
   have HT := H_ (And.intro htx hx)
   obtain ⟨n, hnn⟩ : ∃ n, n = l.length := ⟨_, rfl⟩
   rw [← hnn] at c2 hin
   have hi63 : (0 : Int) ≤ (i : Int) := by omega
   have hiN : (i : Int) < (n : Int) := by omega
   clear hki hv hx htx hc hnn
   go_wp2
   go_ret
   exact ⟨_, rfl, by rw [HG.out, HT.out.2]; exact HT.out.1, rfl, H2.out.2.2⟩
end Go.Proofs.YtdmcioghdindfaaGreatDoor
namespace Go.Json
open Go.Utf
def chars (s : ByteArray) : List UInt8 := s.data.toList
theorem chars_inj {s t : ByteArray} (h : chars s = chars t) : s = t := ByteArray.ext (Array.toList_inj.1 h)
theorem compact_keys (ks : List ByteArray) (hs : ks.Pairwise fun a b => ¬ ltS b a) (hr : ∀ s ∈ ks, rightS s = true) : ∃ cs : List ByteArray, Lib.compact (ks.map chars) = cs.map chars ∧ cs.Pairwise ltS ∧ ∀ s, s ∈ cs ↔ s ∈ ks := by
 have hd : ∀ j (h : j < ks.length), (ks.map chars).toArray[j]! = chars ks[j] := fun j h => by
  rw [getElem!_pos _ _ (by simpa using h)]; simp
 have key : ∀ m, m ≤ ks.length → ∃ cs : List ByteArray, Lib.compactUpTo (ks.map chars).toArray m = cs.map chars ∧ cs.Pairwise ltS ∧ ∀ s, s ∈ cs ↔ s ∈ ks.take m := by
  intro m
  induction m with
  | zero => exact fun _ => ⟨[], rfl, .nil, fun s => by simp⟩
  | succ m ih =>
   intro hm
   obtain ⟨cs, h1, h2, h3⟩ := ih (by omega)
   have hlt : m < ks.length := by omega
   have ht : ks.take (m + 1) = ks.take m ++ [ks[m]] := by rw [List.take_add_one, List.getElem?_eq_getElem hlt]; rfl
   rw [Lib.compactUpTo_succ, h1, ht]
   cases hk : Lib.keeps (ks.map chars).toArray m with
   | true =>
    refine ⟨cs ++ [ks[m]], by rw [hd m hlt]; simp, ?_, fun s => by rw [List.mem_append, List.mem_append, h3 s]⟩
    refine List.pairwise_append.2 ⟨h2, List.pairwise_singleton _ _, fun s hs1 x hx => ?_⟩
    rw [List.mem_singleton.1 hx]
    obtain ⟨t, ht1, ht2⟩ := List.getElem_of_mem ((h3 s).1 hs1)
    have htm : t < m := by rw [List.length_take] at ht1; omega
    rw [List.getElem_take] at ht2
    have hnl := List.pairwise_iff_getElem.1 hs t m (by omega) hlt htm
    rw [ht2] at hnl
    rcases ltS_tri (hr s (by rw [← ht2]; exact List.getElem_mem _)) (hr _ (List.getElem_mem hlt)) with h | h | h
    ·exact h
    ·exfalso
     have hk2 : m = 0 ∨ (ks.map chars).toArray[m]! ≠ (ks.map chars).toArray[m - 1]! := by simpa [Lib.keeps] using hk
     rcases hk2 with e | e
     ·omega
     rw [hd m hlt, hd (m - 1) (by omega)] at e
     refine e (congrArg chars ?_)
     rcases Nat.lt_or_ge t (m - 1) with h4 | h4
     ·have a1 := List.pairwise_iff_getElem.1 hs t (m - 1) (by omega) (by omega) h4
      have a2 := List.pairwise_iff_getElem.1 hs (m - 1) m (by omega) hlt (by omega)
      rw [ht2, h] at a1
      rcases ltS_tri (hr _ (List.getElem_mem hlt)) (hr _ (List.getElem_mem (show m - 1 < ks.length by omega))) with b | b | b
      ·exact absurd b a2
      ·exact b
      exact absurd b a1
     have : t = m - 1 := by omega
     subst this
     rw [ht2, h]
    exact absurd h hnl
   | false =>
    refine ⟨cs, by simp, h2, fun s => ?_⟩
    have hk2 : ¬ (m = 0 ∨ (ks.map chars).toArray[m]! ≠ (ks.map chars).toArray[m - 1]!) := by simpa [Lib.keeps] using hk
    have hm0 : m ≠ 0 := fun e => hk2 (.inl e)
    have he : (ks.map chars).toArray[m]! = (ks.map chars).toArray[m - 1]! := Classical.not_not.1 fun e => hk2 (.inr e)
    rw [hd m hlt, hd (m - 1) (by omega)] at he
    have he2 := chars_inj he
    rw [h3 s, List.mem_append, List.mem_singleton]
    refine ⟨.inl, fun h => h.elim id fun h => ?_⟩
    rw [h, he2]
    exact List.mem_take_iff_getElem.2 ⟨m - 1, by omega, rfl⟩
 have hz := key ks.length (Nat.le_refl _)
 rw [List.take_length] at hz
 unfold Lib.compact
 rw [List.length_map]
 exact hz
end Go.Json
namespace Go.Proofs.YtdmcioghdindfaaGreatDoor
open Go Go.RowKit Go.Aff Go.Utf Go.Json Go.Shelf Go.Sort
theorem keeps_cells {F : Nat → Prop} {w : World} {b : Nat} (hp : F b ∨ w.heap.size ≤ b) : ∀ (vs : List Value) (o : Nat) (w1 : World), Keeps F w w1 → Keeps F w (w1.setCells b o vs)
 | [], _, _, h => h
 | v :: r, o, _, h => keeps_cells hp r (o + 1) _ (h.setCell (p := ⟨b, o, none⟩) hp v)
theorem sort_any2 (w : World) (A : Option Addr) (n c : Nat) (ks : List ByteArray) (hr : Rd w A n (ks.map .string)) (hfz : ∀ g o j, A = some ⟨g, o, none⟩ → j < n → w.frozen? ⟨g, o + j, none⟩ = false) (hright : ∀ s ∈ ks, rightS s = true ∧ s.size ≤ 1152921504606846976) (hn : n < 4611686018427387904) :
  Calls Tryz.prog 60 #[.slice A n c, .func (.func 61) #[] #[]] w fun e w' => e = .returned (.tuple #[]) ∧ ∃ ks' : List ByteArray, ks'.Perm ks ∧ ks'.Pairwise (fun a b => ¬ ltS b a) ∧ Rd w' A n (ks'.map .string) ∧
   Keeps (fun i => ∃ a, A = some a ∧ i = a.block) w w' ∧ ∀ g o j, A = some ⟨g, o, none⟩ → j < n → w'.frozen? ⟨g, o + j, none⟩ = false := by
 have hkl : ks.length = n := by simpa using hr.1
 rcases Nat.eq_zero_or_pos n with h0 | h0
 ·subst h0
  have hk0 : ks = [] := List.length_eq_zero_iff.1 hkl
  subst hk0
  have h := AnyF.slices_SortFunc_none { Tryz.sortS with } A c (.func (.func 61) #[] #[]) w
  refine h.mono fun e w' hh => ?_
  obtain ⟨he, rfl⟩ := hh
  exact ⟨he, [], .refl _, .nil, hr, Keeps.refl _ _, fun g o j _ h => by omega⟩
 obtain ⟨g, o, rfl, hc⟩ := hr.2 h0
 obtain ⟨d, hd⟩ := toRS ks hright
 have hdl : d.length = n := by rw [← hkl, ← hd]; simp [unS]
 have hget : ∀ (l : List RS) (j : Nat), j < l.length → ((unS l).map Value.string)[j]? = some (encS l.toArray[j]!) := fun l j hj => by
  unfold unS
  rw [List.getElem?_map, List.getElem?_map, List.getElem?_eq_getElem hj, getElem!_pos _ _ (by simpa using hj)]
  rfl
 have hH : Holds encS w g o d.toArray := fun j hj => by
  have hj' : j < d.length := by simpa using hj
  refine ⟨?_, hfz g o j rfl (by omega)⟩
  rw [hc j (by omega), ← hd]
  exact hget d j hj'
 have hlt : g < w.heap.size := World.block_lt_of_cell? w _ (show w.cell? ⟨g, o + 0, none⟩ = some _ from (hH 0 (by simp; omega)).1)
 have h := Any.slices_SortFunc Tryz.sortS encS (fun _ => rfl) cfS swo_cf 61 #[] g o c d.toArray w (enters_of Tryz.func61 (by kernel_rfl) rfl) (cmp_lays g o _ w) hH hlt (by simp; omega)
 rw [show d.toArray.size = n by simpa using hdl] at h
 refine h.mono fun e w' hh => ?_
 obtain ⟨he, d', m, os, hp, hs, rfl⟩ := hh
 have hps : d'.size = d.toArray.size := hp.1
 have hsz : d'.size = n := by rw [hps]; simpa using hdl
 have hperm : d'.toList.Perm d := by
  have h2 := hp.2.2
  have e1 : d'.extract 0 n = d' := by rw [← hsz]; exact Array.extract_size
  have e2 : d.toArray.extract 0 n = d.toArray := by rw [← hsz, hps]; exact Array.extract_size
  rw [e1, e2] at h2
  exact h2
 refine ⟨he, unS d'.toList, ?_, ?_, ⟨?_, fun _ => ⟨g, o, rfl, fun j hj => ?_⟩⟩, (sortWorld_keeps encS w g o m d' os).mono (fun i _ e => ⟨_, rfl, e⟩), fun g2 o2 j2 e2 hj2 => ?_⟩
 ·rw [← hd]; exact hperm.map _
 ·unfold unS
  rw [List.pairwise_map, List.pairwise_iff_getElem]
  intro i j hi hj hij
  have h1 := hs i j (Nat.zero_le _) hij (by rw [← hsz]; simpa using hj)
  rw [lt_cf, decide_eq_false_iff_not] at h1
  rw [getElem!_pos _ _ (by simpa using hj), getElem!_pos _ _ (by simpa using hi)] at h1
  simpa using h1
 ·simp [unS, hsz]
 ·have h1 := (holds_sortWorld encS w g o m d.toArray d' os hlt hH hps j (by omega)).1
  rw [h1]
  have := hget d'.toList j (by simpa using (by omega : j < d'.size))
  rw [this]
 injection e2 with e2
 injection e2 with e2 e3
 subst e2 e3
 exact (holds_sortWorld encS w g o m d.toArray d' os hlt hH hps j2 (by omega)).2
theorem compact_any (w : World) (A : Option Addr) (n c : Nat) (ks : List ByteArray) (hr : Rd w A n (ks.map .string)) (hfz : ∀ g o j, A = some ⟨g, o, none⟩ → j < n → w.frozen? ⟨g, o + j, none⟩ = false) (hs : ks.Pairwise fun a b => ¬ ltS b a) (hri : ∀ s ∈ ks, rightS s = true) (hn : n ≤ 1152921504606846976) (hc : n ≤ c) :
  Calls Tryz.prog 62 #[.slice A n c] w fun e w' => ∃ (cs : List ByteArray) (m : Nat), e = .returned (.slice A m c) ∧ cs.length = m ∧ m ≤ n ∧ Rd w' A m (cs.map .string) ∧ cs.Pairwise ltS ∧ (∀ s, s ∈ cs ↔ s ∈ ks) ∧ Keeps (fun i => ∃ a, A = some a ∧ i = a.block) w w' := by
 have hkl : ks.length = n := by simpa using hr.1
 rcases Nat.eq_zero_or_pos n with h0 | h0
 ·subst h0
  have hk0 : ks = [] := List.length_eq_zero_iff.1 hkl
  subst hk0
  refine (Any.slices_Compact_string_empty Tryz.lays194 A c w).mono fun e w' hh => ?_
  obtain ⟨he, rfl⟩ := hh
  exact ⟨[], 0, he, rfl, Nat.le_refl _, hr, .nil, fun s => Iff.rfl, Keeps.refl _ _⟩
 obtain ⟨g, o, rfl, hcl⟩ := hr.2 h0
 obtain ⟨cs, h1, h2, h3⟩ := compact_keys ks hs hri
 have hst : Lib.strsOf (fun i => (ks[i]?).getD .empty) n = ks.map chars := by
  unfold Lib.strsOf
  apply List.ext_getElem
  ·simp [hkl]
  intro i hi1 hi2
  have hi : i < ks.length := by simpa using hi2
  simp [List.getElem?_eq_getElem hi, chars]
 have hle : (cs.map chars).length ≤ n := by
  have := Lib.compact_length_le (ks.map chars)
  rw [h1, show (ks.map chars).length = n by rw [List.length_map, hkl]] at this
  exact this
 refine (Tryz.slices_Compact_string_cells g o n c (fun i => (ks[i]?).getD .empty) w (by omega) hc (fun i hi => by
  rw [hcl i hi, List.getElem?_map, List.getElem?_eq_getElem (by omega)]; rfl) (fun j hj => hfz g o j rfl hj)).mono fun e w' hh => ?_
 rw [hst, h1] at hh
 obtain ⟨he, q, rfl⟩ := hh
 rw [List.length_map] at he hle
 have hlen : ((cs.map chars ++ List.replicate (n - (cs.map chars).length) []).map encStr).length = n := by
  rw [List.length_map, List.length_append, List.length_replicate, List.length_map]; omega
 have hth : (w.drewN q).there g o ((cs.map chars ++ List.replicate (n - (cs.map chars).length) []).map encStr).length := fun j hj => by
  rw [hlen] at hj
  refine ⟨?_, hfz g o j rfl hj⟩
  have h4 := hcl j hj
  rw [List.getElem?_map, List.getElem?_eq_getElem (by omega)] at h4
  show ((w.drewN q).cell? ⟨g, o + j, none⟩).isSome = true
  rw [show (w.drewN q).cell? ⟨g, o + j, none⟩ = w.cell? ⟨g, o + j, none⟩ from rfl, h4]
  rfl
 have hrg := World.rangeAt_setCells_same (w.drewN q) g o _ hth
 refine ⟨cs, cs.length, he, rfl, hle, ⟨by simp, fun hm => ⟨g, o, rfl, fun j hj => ?_⟩⟩, h2, h3, ?_⟩
 ·have hj2 : j < cs.length := hj
  have e1 : ((cs.map chars ++ List.replicate (n - (cs.map chars).length) []).map encStr)[j]? = some (.string cs[j]) := by
   rw [List.getElem?_map, List.getElem?_append_left (by simpa using hj2), List.getElem?_map, List.getElem?_eq_getElem hj2]
   rfl
  rw [hrg j _ e1, List.getElem?_map, List.getElem?_eq_getElem hj2]
  rfl
 exact keeps_cells (.inl ⟨_, rfl, rfl⟩) _ _ _ ((Keeps.refl _ w).drewN q)
theorem rdS_of {w : World} {A : Option Addr} {n : Nat} {xs : List Value} (h : Rd w A n xs) : RdS 1 w A n xs := ⟨by rw [h.1]; omega, fun hk => by
 obtain ⟨g, o, e, hc⟩ := h.2 hk
 exact ⟨g, o, e, fun j hj => hc j (by omega)⟩⟩
def allK (bs : List (Nat × List ByteArray)) : List ByteArray := (bs.map (·.2)).flatten
theorem keysOf_any (w : World) (S : Option Addr) (m c : Nat) (bs : List (Nat × List ByteArray)) (hr : Rd w S m (bs.map fun p => .pointer (some ⟨p.1, 0, none⟩)))
  (ho : ∀ p ∈ bs, ∃ B d rf a3, Blk w p.1 84 [rf, .slice B p.2.length d, a3] ∧ Rd w B p.2.length (p.2.map .string)) (hri : ∀ s ∈ allK bs, rightS s = true ∧ s.size ≤ 1152921504606846976) (hn : (allK bs).length ≤ 1048576) (hm : m ≤ 1048576) :
  Calls Tryz.prog 32 #[.slice S m c] w fun e w' => ∃ (A : Option Addr) (n c : Nat) (cs : List ByteArray), e = .returned (.slice A n c) ∧ cs.length = n ∧ n ≤ 1048576 ∧ Rd w' A n (cs.map .string) ∧ InB (fun i => w.heap.size ≤ i) A n ∧ cs.Pairwise ltS ∧ (∀ s, s ∈ cs ↔ s ∈ allK bs) ∧ Keeps (fun _ => False) w w' := by
 have hbl : bs.length = m := by simpa using hr.1
 have HR := H_ hr
 have HOB := H_ ho
 have HRI := H_ hri
 have HN := H_ (And.intro hn hbl)
 clear hr ho hri hn hbl
 go_enter Tryz.func32, Tryz.ntmps32
 go_wp2
 go_loopg [3, 8] m (fun gk y t wx => ∃ (i : Nat) (L : Option Addr) (n1 cl : Nat), i ≤ m ∧ y = .slice L n1 cl ∧ t = .int .i64 i ∧ gk = m - i ∧ Hid (n1 = (allK (bs.take i)).length ∧ MineS 1 w wx 9 L n1 cl ((allK (bs.take i)).map .string)))
 case atStart => exact ⟨0, none, 0, 0, by omega, rfl, rfl, rfl, H_ ⟨rfl, MineS.nil 1 w _⟩⟩
 case round =>
  obtain ⟨i, L, n1, cl, him, rfl, rfl, hgk, HO⟩ := hrel
  have HGK := H_ hgk
  clear hgk
  have hle : ∀ q, (allK (bs.take q)).length ≤ (allK bs).length := fun q => by
   have h : allK bs = allK (bs.take q) ++ allK (bs.drop q) := by unfold allK; rw [← List.flatten_append, ← List.map_append, List.take_append_drop]
   rw [h, List.length_append]; omega
  have HLE := H_ hle
  have hn1 : n1 ≤ 1048576 := by rw [HO.out.1]; exact Nat.le_trans (hle i) HN.out.1
  clear hle
  by_cases hlt : i < m
  ·obtain ⟨p, hp⟩ : ∃ p, bs[i]? = some p := ⟨_, List.getElem?_eq_getElem (by rw [HN.out.2]; exact hlt)⟩
   obtain ⟨g, o, hS, hc⟩ := (HR.out.keep HO.out.2.2.1 (fun _ _ _ h => h)).2 (by omega)
   subst hS
   have hcp := hc i hlt
   rw [List.getElem?_map, hp] at hcp
   obtain ⟨B, d, rf, a3, hb, hk⟩ := HOB.out p (List.mem_of_getElem? hp)
   obtain ⟨q, ks⟩ := p
   have ht : allK (bs.take (i + 1)) = allK (bs.take i) ++ ks := by unfold allK; rw [List.take_add_one, hp]; simp
   obtain ⟨k, hkk⟩ : ∃ k, k = ks.length := ⟨_, rfl⟩
   have hb2 := HO.out.2.2.1.blk hb (fun h => h)
   have hk2 := hk.keep HO.out.2.2.1 (fun _ _ _ h => h)
   have hk2 : Rd wr B k (ks.map .string) := by rw [hkk]; exact hk2
   have hb2 : Blk wr q 84 [rf, .slice B k d, a3] := by rw [hkk]; exact hb2
   have c1 := hb2.cell 1
   have hkn : n1 + k ≤ 1048576 := by
    have h1 := HLE.out (i + 1)
    rw [ht, List.length_append, ← HO.out.1, ← hkk] at h1
    have := HN.out.1
    omega
   have HT := H_ (And.intro ht hkk)
   have HK := H_ hk2
   clear hc hp hb hk ht hkk hb2 hk2
   have hi63 : (0 : Int) ≤ (i : Int) := by omega
   have hiN : (i : Int) < (m : Int) := by omega
   go_wp2_with (at_builtin; refine wpList_append_mine w _ rfl (.tmp 12) (.tmp 16) 29 rfl 9 (.string .empty) 1 16 Tryz.underlying29 (by kernel_rfl) rfl (by decide) rfl HO.out.2 B k d (ks.map .string) rfl (rdS_of HK.out) (by intro u hu; obtain ⟨s, _, rfl⟩ := List.mem_map.1 hu; rfl) (by unfold maxLen; omega) (by omega) ?_; intro A5 c5 w5 hM5; have HM5 := H_ hM5; clear hM5)
   go_roundg (m - (i + 1))
   case measure => rw [HGK.out]; omega
   case rel => exact ⟨i + 1, A5, n1 + k, c5, by omega, rfl, by go_num, rfl, H_ ⟨by rw [HT.out.1, List.length_append, ← HO.out.1, HT.out.2], by rw [HT.out.1, List.map_append]; exact HM5.out⟩⟩
  obtain rfl : i = m := by omega
  have htk : bs.take i = bs := List.take_of_length_le (by rw [HN.out.2]; exact Nat.le_refl _)
  have hmine := HO.out.2
  have hlen := HO.out.1
  rw [htk] at hmine hlen
  have HMI := H_ hmine
  have hfz : ∀ g o j, L = some ⟨g, o, none⟩ → j < n1 → wr.frozen? ⟨g, o + j, none⟩ = false := fun g o j e hj => by
   subst e
   rcases hmine.1.2 with ⟨hv, _⟩ | ⟨g1, cap, cur, hv, _, hh, _⟩
   ·cases hv
   injection hv with hv
   injection hv with hv
   injection hv with h1 h2
   subst h1
   unfold World.frozen?
   rw [hh]
   simp
  have HSO : Hid (Calls Tryz.prog 60 #[.slice L n1 cl, .func (.func 61) #[] #[]] wr fun e w' => e = .returned (.tuple #[]) ∧ ∃ ks' : List ByteArray, Hid (ks'.Perm (allK bs) ∧ ks'.Pairwise (fun a b => ¬ ltS b a) ∧ Rd w' L n1 (ks'.map .string) ∧ Keeps (fun i => ∃ a, L = some a ∧ i = a.block) wr w' ∧ ∀ g o j, L = some ⟨g, o, none⟩ → j < n1 → w'.frozen? ⟨g, o + j, none⟩ = false)) :=
   H_ (by
    refine (sort_any2 wr L n1 cl (allK bs) (MineS.rd hmine) hfz HRI.out (by omega)).mono ?_
    rintro e w' ⟨he, ks', h2⟩
    exact ⟨he, ks', H_ h2⟩)
  have HCO : Hid (∀ (W : World) (ks' : List ByteArray), (ks'.Perm (allK bs) ∧ ks'.Pairwise (fun a b => ¬ ltS b a) ∧ Rd W L n1 (ks'.map .string) ∧ Keeps (fun i => ∃ a, L = some a ∧ i = a.block) wr W ∧ ∀ g o j, L = some ⟨g, o, none⟩ → j < n1 → W.frozen? ⟨g, o + j, none⟩ = false) → Calls Tryz.prog 62 #[.slice L n1 cl] W fun e w' => ∃ (cs : List ByteArray) (m : Nat), e = .returned (.slice L m cl) ∧ Hid (cs.length = m ∧ m ≤ n1 ∧ Rd w' L m (cs.map .string) ∧ cs.Pairwise ltS ∧ (∀ s, s ∈ cs ↔ s ∈ allK bs) ∧ Keeps (fun _ => False) w w')) := H_ fun W ks' h => by
   have hkL : Keeps (fun i => ∃ a, L = some a ∧ i = a.block) wr W := h.2.2.2.1
   refine (compact_any W L n1 cl ks' h.2.2.1 h.2.2.2.2 h.2.1 (fun s hs => (HRI.out s (h.1.mem_iff.1 hs)).1) (by omega) (MineS.cap hmine)).mono ?_
   rintro e w' ⟨cs, m, he, h1, h2, h3, h4, h5, h6⟩
   refine ⟨cs, m, he, H_ ⟨h1, h2, h3, h4, fun s => (h5 s).trans h.1.mem_iff, hmine.2.1.trans (hkL.trans h6 fun _ _ e => e) fun q hq e => ?_⟩⟩
   obtain ⟨a, ha, hqa⟩ := e
   have := hmine.2.2 a.block (by rw [ha]; rfl)
   omega
  clear hmine hlen hfz htk
  go_wp2_with (first
   | (go_at_call 60; refine HSO.out.mono ?_; rintro e w2 ⟨rfl, ks', H2⟩)
   | (go_at_call 62; refine (HCO.out _ _ H2.out).mono ?_; rintro e w3 ⟨cs, k, rfl, H3⟩))
  go_ret
  obtain ⟨h1, h2, h3, h4, h5, h6⟩ := H3.out
  exact ⟨L, k, cl, cs, rfl, h1, Nat.le_trans h2 hn1, h3, fun _ a e => HMI.out.2.2 a.block (by rw [e]; rfl), h4, h5, h6⟩
end Go.Proofs.YtdmcioghdindfaaGreatDoor
