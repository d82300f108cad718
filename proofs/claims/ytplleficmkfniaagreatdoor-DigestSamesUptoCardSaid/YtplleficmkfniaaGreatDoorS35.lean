/- Texts. -/
import Derived.Test.YtplleficmkfniaaGreatDoorS34
import Derived.Shelf.Strings.Cut
import Derived.Shelf.Strings.Count
import Derived.Shelf.Strings.LastIndex
set_option linter.unusedSimpArgs false
set_option maxRecDepth 100000
set_option maxHeartbeats 4000000
namespace Go.Aff
open Go Go.RowKit Go.Sha
structure TxRow (RT BT : TypeId) (lo : Nat) (w : World) (A : Option Addr) (c : Nat) (vals : List Value) (gs : List Nat) (l : List (List Int)) : Prop where
 row : w.ownsRow 0 RT 1 (.slice A l.length c) l.length vals
 rowlo : ∀ g, (Value.slice A l.length c).ownBlock = some g → lo ≤ g
 len : gs.length = l.length
 nd : gs.Nodup
 at_ : ∀ (i : Nat) (g : Nat) (bs : List Int), gs[i]? = some g → l[i]? = some bs → lo ≤ g ∧ ∃ ci, vals[i]? = some (.slice (some ⟨g, 0, none⟩) bs.length ci) ∧ w.ownsRow 0 BT 1 (.slice (some ⟨g, 0, none⟩) bs.length ci) bs.length (vb bs)
theorem LogAt.tx {T RT BT : TypeId} {E : Nat → Prop} {w : World} {p : Nat} {A : Option Addr} {c : Nat} {vals : List Value} {gs : List Nat} {l : List (List Int)} (h : LogAt T RT BT E w p A c vals gs l) {lo : Nat} (hE : ∀ i, E i → lo ≤ i) : TxRow RT BT lo w A c vals gs l :=
 ⟨h.row, fun g hg => hE _ (h.rowE g hg), h.len, h.nd, fun i g bs h1 h2 => ⟨hE _ (h.at_ i g bs h1 h2).1, (h.at_ i g bs h1 h2).2⟩⟩
theorem TxRow.keep {RT BT : TypeId} {lo : Nat} {w w' : World} {A : Option Addr} {c : Nat} {vals : List Value} {gs : List Nat} {l : List (List Int)} {F : Nat → Prop} (h : TxRow RT BT lo w A c vals gs l) (k : Keeps F w w') (hF : ∀ i, lo ≤ i → i < w.heap.size → ¬ F i) : TxRow RT BT lo w' A c vals gs l :=
 ⟨k.own h.row (fun g hg => hF g (h.rowlo g hg) (h.row.lt g hg).2), h.rowlo, h.len, h.nd, fun i g bs h1 h2 => by
  obtain ⟨h3, ci, h4, h5⟩ := h.at_ i g bs h1 h2
  exact ⟨h3, ci, h4, k.own h5 fun g' hg' => by have e : some g = some g' := hg'; injection e with e; subst e; exact hF g h3 (own_ltN h5)⟩⟩
end Go.Aff
namespace Go.Dig
open Go Go.Sha Go.Aff Go.Json Go.Book
theorem cons_bytes {a : Int} {l : List Int} (h0 : 0 ≤ a ∧ a < 256) (h : IsBytes l) : IsBytes (a :: l) := fun x hx => by
 rcases List.mem_cons.1 hx with rfl | hx
 ·exact h0
 ·exact h x hx
theorem app_bytes {a b : List Int} (h : IsBytes a) (k : IsBytes b) : IsBytes (a ++ b) := fun x hx => (List.mem_append.1 hx).elim (h x) (k x)
end Go.Dig
namespace Go.Proofs.YtplleficmkfniaaGreatDoor
open Go Go.RowKit Go.Aff Go.Json Go.Sha Go.Dig Go.Book
attribute [local go_sem] Oper.semAt_some
theorem txrow_parts {RT BT : TypeId} {lo : Nat} {w : World} {A : Option Addr} {c : Nat} {vals : List Value} {gs : List Nat} {l : List (List Int)} (h : TxRow RT BT lo w A c vals gs l) (hb : ∀ t ∈ l, IsBytes t ∧ t.length ≤ 140737488351232) : RdPartsO (fun _ => False) w A l := by
 refine ⟨vals, Rd.of_own h.row, fun _ _ _ h => h, fun i bs hi => ?_⟩
 obtain ⟨g, hg⟩ : ∃ g, gs[i]? = some g := ⟨_, List.getElem?_eq_getElem (by rw [h.len]; exact (List.getElem?_eq_some_iff.1 hi).1)⟩
 obtain ⟨_, ci, h1, h2⟩ := h.at_ i g bs hg hi
 have hm := hb bs (List.mem_of_getElem? hi)
 exact ⟨_, ci, h1, Rd.of_own h2, fun _ _ _ h => h, hm.1, own_cap h2, hm.2⟩
theorem rlog_new {w W : World} {p : Nat} (hG : GW W) (hp : w.heap.size ≤ p) (hw : GT ≤ w.heap.size) (hb : Blk W p 143 [.slice none 0 0]) : Tkg (RgSt p) (fun i => i = p) W [] :=
 ⟨⟨none, 0, [], [], hb, rfl, World.ownsRow_nil _ _ _ _, (fun g hg => by cases hg), rfl, List.nodup_nil, fun i g bs h => by simp at h⟩, fun i hi => by subst hi; exact IsCells.blk hb, fun i hi => by subst hi; exact Nat.le_trans hw hp, hG⟩
theorem rofv_any {D : Nat → Prop} {w : World} {v : List Value} {j : JV} (hG : GW w) (hv : RAt D w v j) (hD : ∀ i, D i → i < w.heap.size) (hok : JOk j) (hf : Fine j) (hn : j.nodes ≤ 1048576) (hb : j.bytes ≤ 4194304) :
  Calls Tryz.prog 77 #[.agg v.toArray] w fun e w' => e = .returned (.agg (vb j.dg).toArray) ∧ Keeps (fun _ => False) w w' := by
 have hv6 := hv.len
 have HSI : Hid ((Tryz.prog.info? 80).map (·.size) = some v.length) := H_ (by rw [hv6]; kernel_rfl)
 obtain ⟨N, hN⟩ : ∃ N, N = w.heap.size := ⟨_, rfl⟩
 obtain ⟨DV, hDV⟩ : ∃ DV, DV = vb j.dg := ⟨_, rfl⟩
 have HD1 : Hid (∀ u ∈ DV, u.oneCell' = true) := H_ (by rw [hDV]; exact vb_one _)
 have HDL : Hid (DV.length = 32) := H_ (by rw [hDV, vb_length]; exact dg_len _)
 have HIN : Hid ((Tryz.prog.info? 144).map (·.size) = some DV.length) := H_ (infoRD DV HDL.out)
 have HBX := H_ (RBox2.made w v)
 rw [← hN] at HBX
 have HOF : Hid (∀ W, RBox2 w N v W → Calls Tryz.prog 61 #[.pointer (some ⟨W.heap.size, 0, none⟩), .agg v.toArray] (W.alloc (.cells #[.slice none 0 0] 143)) fun e w' => e = .returned (.agg DV.toArray) ∧ ∃ E' L, Took (RgSt W.heap.size) (fun i => i = W.heap.size) E' (W.alloc (.cells #[.slice none 0 0] 143)) w' L) := H_ fun W hW => by
  have k1 : Keeps (fun _ => False) w (W.alloc (.cells #[.slice none 0 0] 143)) := hW.keep.alloc _
  refine (rlof_any W.heap.size j hok hf hb D _ _ [] v ⟨rlog_new (hG.stay k1) hW.keep.size hG.top (Blk.new W 143 [.slice none 0 0]), hv.stay k1, fun i hi e => ?_, by simp; omega⟩).mono fun e w' ⟨h1, E', h2⟩ => ⟨by rw [hDV]; exact h1, E', _, h2⟩
  subst e
  have := hD _ hi
  have := hW.keep.size
  omega
 have HNN := H_ hN
 rw [← hDV]
 clear hG hv hD hok hf hn hb hv6 hN hDV
 go_enter Tryz.func77, Tryz.ntmps77
 go_upto_region 1 with fail
 refine gen_codeF (fun W => RBox2 w N v W) (by have hh := HBX.out; have := HNN.out; subst this; exact hh) ?_
 intro w1 hb1
 have hNN := HNN.out
 rw [← hNN]
 clear hNN
 have HB1 := H_ hb1
 have HB2 := H_ (hb1.stay ((Keeps.refl (fun _ => False) w1).alloc (.cells #[.slice none 0 0] 143)))
 clear hb1
 go_wp2_with (first
  | ((with_reducible show wpList _ _ _ (⟨some 7, Op.load 80 _, _, _, _, _⟩ :: _) _ _); refine wpList_load_whole rfl 80 _ rfl _ rfl HB2.out.blk Tryz.underlying80 rfl HSI.out ?_)
  | (go_at_call 61; refine (HOF.out w1 HB1.out).mono ?_; rintro e w6 ⟨rfl, E6, L6, hT6⟩; have HT6 := H_ hT6; have HZ6 := H_ (hT6.keep.blk HB2.out.zero (by have := HB1.out.zero.lt; omega)); clear hT6)
  | ((with_reducible show wpList _ _ _ (⟨none, Op.store 144 _ _, _, _, _, _⟩ :: _) _ _); refine wpList_store_whole rfl 144 _ _ rfl DV rfl rfl HZ6.out (by rw [HDL.out]; simp) HIN.out HD1.out ?_))
 refine bodyPost_ret (results_blk rfl _ _ rfl (HZ6.out.setRow DV) Tryz.underlying144 rfl HIN.out) rfl ⟨rfl, ?_⟩
 have h1 : Keeps (fun _ => False) w w6 := HB2.out.keep.trans HT6.out.keep fun i hi e => by have := HB1.out.keep.size; omega
 exact h1.setRow (.inr (by have := HNN.out; omega)) _
theorem results_blk_tmp {P : Program} {w : World} {g : Nat} {t : TypeId} {cs : List Value} {fn : Func} {p u : Tmp} {ty : TypeId} (h : fn.results = #[.cell p ty, .tmp u]) (tmps : Array Value) (d : TypeDesc)
  (hp : tmps.getD p undef = .pointer (some ⟨g, 0, none⟩)) (hg : Blk w g t cs)
  (hu : P.underlying ty = some d) (hd : (match d with | .struct _ | .array _ _ => true | _ => false) = true) (hi : (P.info? ty).map (·.size) = some cs.length) :
  (results fn tmps).run P w = .ok (.tuple #[.agg cs.toArray, tmps.getD u undef]) w := by
 rw [results_cell_tmp h, hp]
 simp only [asAddr, Sem.run_pure, Result.andThen]
 rw [run_loadVar_row w g t ty cs.toArray (0, 0) d hg hu hd (by simpa using hi)]
def zeroD : List Int := List.replicate 32 0
theorem vb_zero : vb zeroD = List.replicate 32 (Value.int .u8 0) := rfl
theorem dOf_any {D : Nat → Prop} {w : World} {q : Nat} {v : Value} {j : JV} (hG : GW w) (ht : TreeAt D w q v j) (hok : JOk j) (hn : j.nodes ≤ 1048576) (hb : j.bytes ≤ 4194304) :
  Calls Tryz.prog 23 #[.pointer (some ⟨q, 0, none⟩)] w fun e w' => e = .returned (.tuple #[.agg (vb j.dg).toArray, .nilIface]) ∧ Keeps (fun _ => False) w w' := by
 obtain ⟨T, y, hv⟩ := ht.2.2.iface
 subst hv
 obtain ⟨N, hN⟩ : ∃ N, N = w.heap.size := ⟨_, rfl⟩
 obtain ⟨DV, hDV⟩ : ∃ DV, DV = vb j.dg := ⟨_, rfl⟩
 have HD1 : Hid (∀ u ∈ DV, u.oneCell' = true) := H_ (by rw [hDV]; exact vb_one _)
 have HDL : Hid (DV.length = 32) := H_ (by rw [hDV, vb_length]; exact dg_len _)
 have HIN : Hid ((Tryz.prog.info? 23).map (·.size) = some DV.length) := H_ (infoDg DV HDL.out)
 have HW1 : Hid (Keeps (fun _ => False) w (w.alloc (.cells (List.replicate 32 (Value.int .u8 0)).toArray 23)) ∧ Blk (w.alloc (.cells (List.replicate 32 (Value.int .u8 0)).toArray 23)) N 23 (List.replicate 32 (Value.int .u8 0))) := H_ ⟨(Keeps.refl _ w).alloc _, by rw [hN]; exact Blk.new _ _ _⟩
 have HRO : Hid (∀ W, Keeps (fun _ => False) w W → Calls Tryz.prog 40 #[.pointer (some ⟨q, 0, none⟩)] W fun e w' => e = .returned (.agg #[.iface T y]) ∧ Keeps (fun _ => False) W w') := H_ fun W hW => root_any W q T y (hW.blk ht.2.1 fun h => h)
 have HOF : Hid (∀ W, Keeps (fun _ => False) w W → Calls Tryz.prog 67 #[.nilFunc, .agg #[.iface T y]] W fun e w' => e = .returned (.agg DV.toArray) ∧ Keeps (fun _ => False) W w') := H_ fun W hW => by rw [hDV]; exact dof_plain (hG.stay hW) (ht.2.2.stay hW) hok hn hb
 have HNN := H_ hN
 rw [← hDV]
 clear hG ht hok hn hb hN hDV
 go_enter Tryz.func23, Tryz.ntmps23
 go_upto_region 1 with fail
 refine gen_codeF (fun W => Keeps (fun _ => False) w W ∧ Blk W N 23 (List.replicate 32 (Value.int .u8 0))) HW1.out ?_
 rintro w1 ⟨k1, z1⟩
 have hNN := HNN.out
 rw [← hNN]
 clear hNN
 have HK1 := H_ k1
 have HZ1 := H_ z1
 clear k1 z1
 go_wp2_with (first
  | (go_at_call 40; refine (HRO.out _ HK1.out).mono ?_; rintro e w2 ⟨rfl, hk2⟩; have HK2 := H_ (HK1.out.trans hk2 fun _ _ h => h); have HZ2 := H_ (hk2.blk HZ1.out fun h => h); clear hk2)
  | (go_at_call 67; refine (HOF.out _ HK2.out).mono ?_; rintro e w3 ⟨rfl, hk3⟩; have HK3 := H_ (HK2.out.trans hk3 fun _ _ h => h); have HZ3 := H_ (hk3.blk HZ2.out fun h => h); clear hk3)
  | ((with_reducible show wpList _ _ _ (⟨none, Op.store 23 _ _, _, _, _, _⟩ :: _) _ _); refine wpList_store_whole rfl 23 _ _ rfl DV rfl rfl HZ3.out (by rw [HDL.out]; simp) HIN.out HD1.out ?_))
 refine bodyPost_ret (results_blk_tmp rfl _ _ rfl (HZ3.out.setRow DV) Tryz.underlying23 rfl HIN.out) rfl ⟨rfl, ?_⟩
 exact HK3.out.setRow (.inr (by have := HNN.out; omega)) _
theorem tk_new {w W : World} {p : Nat} (hG : GW W) (hp : w.heap.size ≤ p) (hw : GT ≤ w.heap.size) (hb : Blk W p 39 [.slice none 0 0]) : Tkg (TkSt (takeV p)) (fun i => i = p) W [] :=
 ⟨.inr ⟨p, rfl, none, 0, [], [], hb, rfl, World.ownsRow_nil _ _ _ _, (fun g hg => by cases hg), rfl, List.nodup_nil, fun i g bs h => by simp at h⟩, fun i hi => by subst hi; exact IsCells.blk hb, fun i hi => by subst hi; exact Nat.le_trans hw hp, hG⟩
theorem dtexts_any {D : Nat → Prop} {w : World} {q : Nat} {v : Value} {j : JV} (hG : GW w) (ht : TreeAt D w q v j) (hD : ∀ i, D i → i < w.heap.size) (hok : JOk j) (hn : j.nodes ≤ 1048576) (hb : j.bytes ≤ 4194304) :
  Calls Tryz.prog 26 #[.pointer (some ⟨q, 0, none⟩)] w fun e w' => ∃ A c vals gs, e = .returned (.slice A j.tx.length c) ∧ Hid (TxRow 48 5 w.heap.size w' A c vals gs j.tx) ∧ Keeps (fun _ => False) w w' := by
 obtain ⟨T, y, hv⟩ := ht.2.2.iface
 subst hv
 obtain ⟨N, hN⟩ : ∃ N, N = w.heap.size := ⟨_, rfl⟩
 have HW1 : Hid (Keeps (fun _ => False) w (w.alloc (.cells #[.slice none 0 0] 39)) ∧ Blk (w.alloc (.cells #[.slice none 0 0] 39)) N 39 [.slice none 0 0]) := H_ ⟨(Keeps.refl _ w).alloc _, by rw [hN]; exact Blk.new _ _ _⟩
 have HRO : Hid (∀ W, Keeps (fun _ => False) w W → Calls Tryz.prog 40 #[.pointer (some ⟨q, 0, none⟩)] W fun e w' => e = .returned (.agg #[.iface T y]) ∧ Keeps (fun _ => False) W w') := H_ fun W hW => root_any W q T y (hW.blk ht.2.1 fun h => h)
 have HOF : Hid (∀ W, Keeps (fun _ => False) w W → Blk W N 39 [.slice none 0 0] → Calls Tryz.prog 67 #[.func (.func 68) #[] #[.pointer (some ⟨N, 0, none⟩)], .agg #[.iface T y]] W fun e w' => (∃ x, e = .returned x) ∧ ∃ E', Took (TkSt (takeV N)) (fun i => i = N) E' W w' j.tx) := H_ fun W hW hb1 => by
  refine (dof_any (takeV N) j hok hn hb D _ W [] (.iface T y) ⟨tk_new (hG.stay hW) (by omega) hG.top hb1, ht.2.2.stay hW, fun i hi e => ?_, by simp; omega⟩).mono fun e w' ⟨h1, E', h2⟩ => ⟨⟨_, h1⟩, E', h2⟩
  subst e
  have := hD _ hi
  omega
 have HNN := H_ hN
 obtain ⟨n, hnn⟩ : ∃ n, n = j.tx.length := ⟨_, rfl⟩
 have HNL := H_ hnn
 rw [← hnn]
 clear hG ht hD hok hn hb hN hnn
 go_enter Tryz.func26, Tryz.ntmps26
 go_upto_region 4 with fail
 refine gen_codeF (fun W => Keeps (fun _ => False) w W ∧ Blk W N 39 [.slice none 0 0]) HW1.out ?_
 rintro w1 ⟨k1, z1⟩
 have hNN := HNN.out
 rw [← hNN]
 clear hNN
 have HK1 := H_ k1
 have HZ1 := H_ z1
 clear k1 z1
 go_upto_region 5 with (first
  | (go_at_call 40; refine (HRO.out _ HK1.out).mono ?_; rintro e w2 ⟨rfl, hk2⟩; have HK2 := H_ (HK1.out.trans hk2 fun _ _ h => h); have HZ2 := H_ (hk2.blk HZ1.out fun h => h); clear hk2)
  | (go_at_call 67; refine (HOF.out _ HK2.out HZ2.out).mono ?_; rintro e w3 ⟨⟨x3, rfl⟩, E3, hT3⟩; have HT3 := H_ hT3; clear hT3))
 obtain ⟨A, c, vals, gs, hlog⟩ : ∃ A c vals gs, LogAt 39 48 5 E3 w3 N A c vals gs j.tx := by
  rcases HT3.out.st with h | ⟨p, h1, A, c, vals, gs, h2⟩
  ·cases h
  ·have hp : N = p := by
    unfold takeV at h1
    injection h1 with _ _ h1
    simpa using h1
   subst hp
   exact ⟨A, c, vals, gs, h2⟩
 have cp := hlog.box.cell 0
 rw [← HNL.out] at cp
 have HLO := H_ hlog
 clear hlog
 go_wp2
 go_ret
 refine ⟨A, c, vals, gs, rfl, H_ (HLO.out.tx fun i hi => ?_), HK2.out.trans HT3.out.keep fun i hi e => by have := HNN.out; omega⟩
 have hs := HK2.out.size
 rcases HT3.out.new i hi with e | e
 ·have := HNN.out; omega
 ·omega
end Go.Proofs.YtplleficmkfniaaGreatDoor
namespace Go.Proofs.YtplleficmkfniaaGreatDoor
open Go Go.RowKit Go.Aff Go.Json
theorem build_null : buildF [step0 1] = .inr .null := by
 have h : doF [] (step0 1) = .inr [JV.null] := do_scalar [] (step0 1) JV.null (by decide) (by decide) (by simp [mkV, step0]) trivial (by simp [JV.within, JV.nodes, JV.bytes, JV.deep])
 unfold buildF
 rw [if_neg (by decide), rowF_cons, h]
 rfl
theorem null_used : usedF (step0 1) = true := by decide
theorem build_one (w : World) : Calls Tryz.prog 13 #[.slice (some ⟨w.heap.size, 0, none⟩) 1 1] (w.alloc (.cells (stepV (step0 1) none 0).toArray 131)) fun e w' =>
  ∃ q v, e = .returned (.tuple #[.pointer (some ⟨q, 0, none⟩), .nilIface]) ∧ TreeAt (fun i => w.heap.size ≤ i) w' q v .null ∧ Keeps (fun _ => False) w w' := by
 have hb := Blk.new w 131 (stepV (step0 1) none 0)
 have h := Build_spec (w.alloc (.cells (stepV (step0 1) none 0).toArray 131)) (some ⟨w.heap.size, 0, none⟩) 1 1 [step0 1] rfl (fun k s hs => by
  match k, hs with
  | 0, hs =>
   injection hs with hs
   subst hs
   refine ⟨w.heap.size, 0, none, 0, rfl, fun j v hj => ?_, Rd.nil _ _⟩
   rw [show 0 + 0 * 6 + j = j by omega, hb.cell, hj]
  | k + 1, hs => cases hs) (fun s hs => by
  rw [List.mem_singleton.1 hs]
  exact do_null_spec _ null_used rfl)
 refine h.mono fun e w' hh => ?_
 unfold BuildPost at hh
 rw [build_null] at hh
 obtain ⟨hk, q, v, he, ht, _⟩ := hh
 have hk2 : Keeps (fun _ => False) w w' := ((Keeps.refl _ w).alloc _).trans hk (fun _ _ h => h)
 exact ⟨q, v, he, ht.mono (fun i hi _ => by rw [World.size_alloc] at hi; omega), hk2⟩
end Go.Proofs.YtplleficmkfniaaGreatDoor
namespace Go.Proofs
open Go.Shelf
def Tryz.lays138_ren : Go.Shelf.Ren := ⟨fun | 138 => 118 | 195 => 172 | 218 => 173 | 143 => 174 | 219 => 208 | 217 => 241 | 225 => 242 | 224 => 243 | 267 => 244 | 266 => 261 | 314 => 262 | n => n, fun | 9 => 9 | 3 => 3 | 4 => 4 | 5 => 5 | 0 => 0 | 46 => 291 | 146 => 390 | 51 => 253 | n => n, fun | 1 => 2 | n => n⟩
theorem Tryz.lays138 : Go.Proofs.Lays.n138 Tryz.prog Tryz.lays138_ren := {
 mixed := by kernel_rfl
 f138 := Tryz.func118.trans (congrArg some (by kernel_rfl))
 f143 := Tryz.func174.trans (congrArg some (by kernel_rfl))
 f195 := Tryz.func172.trans (congrArg some (by kernel_rfl))
 f217 := Tryz.func241.trans (congrArg some (by kernel_rfl))
 f218 := Tryz.func173.trans (congrArg some (by kernel_rfl))
 f219 := Tryz.func208.trans (congrArg some (by kernel_rfl))
 f224 := Tryz.func243.trans (congrArg some (by kernel_rfl))
 f225 := Tryz.func242.trans (congrArg some (by kernel_rfl))
 f266 := Tryz.func261.trans (congrArg some (by kernel_rfl))
 f267 := Tryz.func244.trans (congrArg some (by kernel_rfl))
 f314 := Tryz.func262.trans (congrArg some (by kernel_rfl))
 t0 := Tryz.underlying0
 a0 := Tryz.isAgg0
 z0 := Tryz.sizeOf0
 v0 := Tryz.zeroValue0
 t3 := Tryz.underlying3
 a3 := Tryz.isAgg3
 z3 := Tryz.sizeOf3
 v3 := Tryz.zeroValue3
 t4 := Tryz.underlying4
 a4 := Tryz.isAgg4
 z4 := Tryz.sizeOf4
 v4 := Tryz.zeroValue4
 t5 := Tryz.underlying5
 a5 := Tryz.isAgg5
 z5 := Tryz.sizeOf5
 v5 := Tryz.zeroValue5
 t9 := Tryz.underlying9
 a9 := Tryz.isAgg9
 z9 := Tryz.sizeOf9
 v9 := Tryz.zeroValue9
 t46 := Tryz.underlying291
 a46 := Tryz.isAgg291
 z46 := Tryz.sizeOf291
 v46 := Tryz.zeroValue291
 t51 := Tryz.underlying253
 a51 := Tryz.isAgg253
 z51 := Tryz.sizeOf253
 v51 := Tryz.zeroValue253
 t146 := Tryz.underlying390
 a146 := Tryz.isAgg390
 z146 := Tryz.sizeOf390
 v146 := Tryz.zeroValue390
 g1 := by kernel_rfl }
open Go.RowKit Go.Lib in
theorem Tryz.strings_Count_one (s : ByteArray) (c : UInt8) (w : World) :
  Calls Tryz.prog 118 #[.string s, .string ⟨#[c]⟩] w fun e w' => e = .returned (.int .i64 (Lib.countByte s.data.toList c)) ∧ w' = w := Any.strings_Count_one Tryz.lays138 s c w
end Go.Proofs
namespace Go.Proofs.YtplleficmkfniaaGreatDoor
open Go Go.RowKit Go.Aff Go.Sha Go.Dig
attribute [local go_sem] Oper.semAt_some
theorem eql_in {P : Program} {w : World} {t : TypeId} {xs ys : Array Value} {b : Bool} (h : (binOp .eql t (.agg xs) (.agg ys)).run P w = .ok (.bool b) w) : (Op.equalIn 10000 t (.agg xs) (.agg ys)).run P w = .ok b w := by
 rw [run_eql_struct] at h
 cases hr : (Op.equalIn 10000 t (.agg xs) (.agg ys)).run P w with
 | halt a b' => rw [hr] at h; cases h
 | ok b' w' =>
  rw [hr] at h
  simp only [Result.andThen_ok] at h
  injection h with h1 h2
  injection h1 with h1
  rw [h1, h2]
end Go.Proofs.YtplleficmkfniaaGreatDoor
