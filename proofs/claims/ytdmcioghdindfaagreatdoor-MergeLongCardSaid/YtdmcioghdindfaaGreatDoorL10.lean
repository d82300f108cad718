/- Texts. -/
import Derived.Test.YtdmcioghdindfaaGreatDoorL09
set_option linter.unusedSimpArgs false
set_option maxRecDepth 100000
set_option maxHeartbeats 4000000
namespace Go.Json
theorem own_eq (j : JV) : j.own = j.last.text.size + sumN (j.keys.map fun k => k.size) := by
 cases j <;> simp [JV.own, JV.last, JV.keys, step0, sumN]
theorem sumN_take {l : List Nat} {i x : Nat} (h : l[i]? = some x) : sumN (l.take (i + 1)) = sumN (l.take i) + x := by
 have ha : ∀ a b : List Nat, sumN (a ++ b) = sumN a + sumN b := by
  intro a
  induction a with
  | nil => intro b; simp [sumN]
  | cons x a ih => intro b; simp only [List.cons_append, sumN, ih]; omega
 rw [List.take_add_one, h, ha]
 rfl
theorem maxN_take {l : List Nat} {i x : Nat} (h : l[i]? = some x) : maxN (l.take (i + 1)) = max (maxN (l.take i)) x := by
 have ha : ∀ a b : List Nat, maxN (a ++ b) = max (maxN a) (maxN b) := by
  intro a
  induction a with
  | nil => intro b; simp [maxN]
  | cons x a ih => intro b; simp only [List.cons_append, maxN, ih]; omega
 rw [List.take_add_one, h, ha]
 simp [maxN]
theorem sumN_pre (l : List Nat) (i : Nat) : sumN (l.take i) ≤ sumN l := by
 induction l generalizing i with
 | nil => simp [sumN]
 | cons x l ih =>
  cases i with
  | zero => simp [sumN]
  | succ i => simp only [List.take_succ_cons, sumN]; have := ih i; omega
theorem maxN_pre (l : List Nat) (i : Nat) : maxN (l.take i) ≤ maxN l := by
 induction l generalizing i with
 | nil => simp [maxN]
 | cons x l ih =>
  cases i with
  | zero => simp [maxN]
  | succ i => simp only [List.take_succ_cons, maxN]; have := ih i; omega
inductive JOk : JV → Prop
 | mk (j : JV) (h1 : j.keys.length ≤ j.items.length) (h2 : j.sort = 6 → j.keys.length = j.items.length) (hp : j.keys.Pairwise ltS) (hr : ∀ k ∈ j.keys, rightS k = true) (ht : rightS j.last.text = true) (h : ∀ x, x ∈ j.items → JOk x) : JOk j
theorem JOk.form {j : JV} (h : JOk j) : j.keys.length ≤ j.items.length ∧ (j.sort = 6 → j.keys.length = j.items.length) ∧ j.keys.Pairwise ltS ∧ (∀ k ∈ j.keys, rightS k = true) ∧ rightS j.last.text = true ∧ ∀ x, x ∈ j.items → JOk x := by
 cases h with
 | mk _ h1 h2 hp hr ht h => exact ⟨h1, h2, hp, hr, ht, h⟩
theorem items_nodes (j : JV) : j.items.length + 1 ≤ j.nodes := by
 have h : ∀ l : List JV, l.length ≤ sumN (l.map fun x => x.nodes) := by
  intro l
  induction l with
  | nil => simp [sumN]
  | cons x l ih =>
   simp only [List.map_cons, sumN, List.length_cons]
   have : 1 ≤ x.nodes := by rw [JV.nodes_eq]; omega
   omega
 have := h j.items
 rw [JV.nodes_eq]
 omega
def SmallJ (j : JV) : Prop := j.nodes ≤ 1152921504606846976 ∧ j.bytes ≤ 1152921504606846976 ∧ j.deep ≤ 1152921504606846976
theorem sumN_mem {l : List Nat} {x : Nat} (h : x ∈ l) : x ≤ sumN l := by
 induction l with
 | nil => cases h
 | cons y l ih =>
  simp only [sumN]
  rcases List.mem_cons.1 h with rfl | h
  ·omega
  have := ih h; omega
theorem maxN_mem {l : List Nat} {x : Nat} (h : x ∈ l) : x ≤ maxN l := by
 induction l with
 | nil => cases h
 | cons y l ih =>
  simp only [maxN]
  rcases List.mem_cons.1 h with rfl | h
  ·omega
  have := ih h; omega
theorem SmallJ.item {j x : JV} (h : SmallJ j) (hx : x ∈ j.items) : SmallJ x := by
 obtain ⟨h1, h2, h3⟩ := h
 rw [JV.nodes_eq] at h1
 rw [JV.bytes_eq] at h2
 rw [JV.deep_eq] at h3
 have a := sumN_mem (List.mem_map.2 ⟨x, hx, rfl⟩ : x.nodes ∈ j.items.map fun x => x.nodes)
 have b := sumN_mem (List.mem_map.2 ⟨x, hx, rfl⟩ : x.bytes ∈ j.items.map fun x => x.bytes)
 have c := maxN_mem (List.mem_map.2 ⟨x, hx, rfl⟩ : x.deep ∈ j.items.map fun x => x.deep)
 exact ⟨by omega, by omega, by omega⟩
def nodesTo (j : JV) (i : Nat) : Nat := 1 + sumN ((j.items.map fun x => x.nodes).take i)
def bytesTo (j : JV) (i : Nat) : Nat := j.own + sumN ((j.items.map fun x => x.bytes).take i)
def deepTo (j : JV) (i : Nat) : Nat := maxN ((j.items.map fun x => x.deep).take i)
theorem to_next {j x : JV} {i : Nat} (h : j.items[i]? = some x) : nodesTo j (i + 1) = nodesTo j i + x.nodes ∧ bytesTo j (i + 1) = bytesTo j i + x.bytes ∧ deepTo j (i + 1) = max (deepTo j i) x.deep := by
 have h1 : ∀ f : JV → Nat, (j.items.map f)[i]? = some (f x) := fun f => by rw [List.getElem?_map, h]; rfl
 unfold nodesTo bytesTo deepTo
 rw [sumN_take (h1 _), sumN_take (h1 _), maxN_take (h1 _)]
 exact ⟨by omega, by omega, rfl⟩
theorem to_small {j : JV} (h : SmallJ j) (i : Nat) : nodesTo j i ≤ 1152921504606846976 ∧ bytesTo j i ≤ 1152921504606846976 ∧ deepTo j i ≤ 1152921504606846976 := by
 obtain ⟨h1, h2, h3⟩ := h
 rw [JV.nodes_eq] at h1
 rw [JV.bytes_eq] at h2
 rw [JV.deep_eq] at h3
 have a := sumN_pre (j.items.map fun x => x.nodes) i
 have b := sumN_pre (j.items.map fun x => x.bytes) i
 have c := maxN_pre (j.items.map fun x => x.deep) i
 unfold nodesTo bytesTo deepTo
 exact ⟨by omega, by omega, by omega⟩
theorem to_all (j : JV) : nodesTo j j.items.length = j.nodes ∧ bytesTo j j.items.length = j.bytes ∧ deepTo j j.items.length + 1 = j.deep := by
 unfold nodesTo bytesTo deepTo
 have h : ∀ f : JV → Nat, (j.items.map f).take j.items.length = j.items.map f := fun f => List.take_of_length_le (by rw [List.length_map]; exact Nat.le_refl _)
 rw [h, h, h, JV.nodes_eq, JV.bytes_eq, JV.deep_eq]
 exact ⟨rfl, rfl, rfl⟩
theorem to_zero (j : JV) : nodesTo j 0 = 1 ∧ bytesTo j 0 = j.own ∧ deepTo j 0 = 0 := by
 unfold nodesTo bytesTo deepTo
 simp [sumN, maxN]
end Go.Json
namespace Go.Proofs.YtdmcioghdindfaaGreatDoor
open Go Go.RowKit Go.Aff Go.Json
structure Boxed (w W : World) (b : Nat) (T : TypeId) (SV : List Value) : Prop where
 keep : Keeps (fun _ => False) w W
 blk : Blk W b T SV
theorem Boxed.made (w : World) (T : TypeId) (SV : List Value) : Boxed w (w.alloc (.cells SV.toArray T)) w.heap.size T SV := ⟨(Keeps.refl _ w).alloc _, Blk.new w T SV⟩
theorem Boxed.stay {w W W' : World} {b : Nat} {T : TypeId} {SV : List Value} (h : Boxed w W b T SV) (k : Keeps (fun _ => False) W W') : Boxed w W' b T SV := ⟨h.keep.trans k (fun _ _ h => h), k.blk h.blk (fun h => h)⟩
def SizePost (w : World) (j : JV) (e : Ending) (w' : World) : Prop := e = .returned (.tuple #[.int .i64 j.nodes, .int .i64 j.bytes, .int .i64 j.deep]) ∧ Keeps (fun _ => False) w w'
theorem rsize_one {D : Nat → Prop} (w : World) (v : List Value) (j : JV) (h : RAt D w v j) (hs : SmallJ j) (hok : JOk j)
  (ih : ∀ x, x ∈ j.items → ∀ (W : World) (u : List Value), RAt D W u x → Calls Tryz.prog 42 #[.agg u.toArray] W (SizePost W x)) :
  Calls Tryz.prog 42 #[.agg v.toArray] w (SizePost w j) := by
 obtain ⟨A, c, B, d, cs, rfl, hA, _, hB, _, hI⟩ := h.form
 have HA := H_ hA
 have HBR := H_ hB
 have HIH : Hid (∀ i x, j.items[i]? = some x → (cs i).length = 6 ∧ ∀ W, Keeps (fun _ => False) w W → Calls Tryz.prog 42 #[.agg (cs i).toArray] W (SizePost W x)) := H_ fun i x hx => ⟨(hI i x hx).len, fun W hW => ih x (List.mem_of_getElem? hx) W (cs i) ((hI i x hx).stay hW)⟩
 have hl : j.items.length ≤ 1152921504606846976 := by have := items_nodes j; have := hs.1; omega
 have hlk : j.keys.length ≤ 1152921504606846976 := by have := hok.form.1; omega
 have HSM := H_ (fun i => to_small hs i)
 have HTZ := H_ (to_zero j)
 have HTA := H_ (to_all j)
 have HTN := H_ fun (i : Nat) (x : JV) (hx : j.items[i]? = some x) => to_next hx
 have HOWN := H_ (own_eq j)
 obtain ⟨n, hn⟩ : ∃ n, n = j.items.length := ⟨_, rfl⟩
 obtain ⟨m, hm⟩ : ∃ m, m = j.keys.length := ⟨_, rfl⟩
 obtain ⟨ts, hts⟩ : ∃ t, t = j.last.text.size := ⟨_, rfl⟩
 have hts' := hts.symm
 rw [← hn] at HA HTA hl
 rw [← hm] at HBR hlk
 rw [← hts] at HOWN
 obtain ⟨SV, hSV⟩ : ∃ SV, SV = refC j A c B d := ⟨_, rfl⟩
 have hbx := Boxed.made w 31 SV
 have HC : Hid (SV[3]? = some (.string j.last.text) ∧ SV[4]? = some (.slice A n c) ∧ SV[5]? = some (.slice B m d)) := H_ (by rw [hSV, hn, hm]; exact ⟨rfl, rfl, rfl⟩)
 rw [← hSV]
 have HBX := H_ hbx
 have HNM := H_ (And.intro hn hm)
 clear h ih hA hB hI hs hok hn hm hts hSV hbx
 go_enter Tryz.func42, Tryz.ntmps42
 go_upto_region 1 with fail
 obtain ⟨b, hb⟩ : ∃ b, b = w.heap.size := ⟨_, rfl⟩
 rw [← hb] at HBX ⊢
 refine gen_codeF (fun W => Boxed w W b 31 SV) HBX.out ?_
 intro w1 hb1
 have HB1 := H_ hb1
 clear hb1 HBX hb
 refine wp_region_held_drew (S := fun W => Boxed w W b 31 SV) (by kernel_rfl) (HB1.out.stay (Keeps.refl _ _).drew) (fun h_ => ?_)
 refine tI 0 13 h_ ?_
 try simp only [pu]
 refine tI 1 14 h_ ?_ (hy := .inl ⟨by rfl, by intro w' hSw; have cv := (hSw.blk.cell 3).trans HC.out.1; go_simp; first | done | rfl⟩)
 try simp only [pu]
 refine tI 2 15 h_ ?_
 try simp only [pu]
 refine tI 3 5 h_ ?_
 try simp only [pu]
 refine tI 4 6 h_ ?_
 try simp only [pu]
 refine tI 5 7 h_ ?_
 try simp only [pu]
 refine wpAnyH_done (by kernel_rfl) ?_ _
 have HB2 := H_ h_
 clear h_ HB1
 have hby : Hid (∀ i, ts + byF (j.keys.take i) ≤ 1152921504606846976) := H_ fun i => by
  have h1 := (HSM.out 0).2.1
  rw [HTZ.out.2.1, HOWN.out] at h1
  have h2 := byF_le j.keys i
  unfold byF at h2 ⊢
  omega
 go_upto_block 0 with fail
 go_wp2
 go_loopg [6, 8] m (fun gk y t wx => ∃ (i : Nat) (z : Nat), i ≤ m ∧ y = .int .i64 (z : Int) ∧ t = .int .i64 i ∧ gk = m - i ∧ Hid (z = ts + byF (j.keys.take i)) ∧ Hid (Boxed w wx b 31 SV))
 case atStart => exact ⟨0, ts, by omega, by first | rfl | (rw [hts']), rfl, rfl, H_ (by simp [byF, sumN]), HB2⟩
 case round =>
  obtain ⟨i, z, him, rfl, rfl, hgk, HZ, HBW⟩ := hrel
  have HGK := H_ hgk
  have c5 := (HBW.out.blk.cell 5).trans HC.out.2.2
  clear hgk
  by_cases hlt : i < m
  ·obtain ⟨g, o, hBe, hcell⟩ := (HBR.out.keep HBW.out.keep (fun _ _ _ h => h)).2 (by omega)
   subst hBe
   obtain ⟨s, hsk⟩ : ∃ s, j.keys[i]? = some s := ⟨_, List.getElem?_eq_getElem (by have := HNM.out.2; omega)⟩
   have ck : wr.cell? ⟨g, o + i, none⟩ = some (.string s) := by rw [hcell i hlt, List.getElem?_map, hsk]; rfl
   obtain ⟨q, hq⟩ : ∃ q, q = s.size := ⟨_, rfl⟩
   have hq' := hq.symm
   have hZN : z + q = ts + byF (j.keys.take (i + 1)) := by rw [HZ.out, byF_take hsk, hq]; omega
   have hzq : z + q ≤ 1152921504606846976 := by rw [hZN]; exact hby.out _
   have HZN := H_ hZN
   clear hcell hsk hq hZN
   go_wp2
   go_roundg (m - (i + 1))
   case measure => rw [HGK.out]; omega
   case rel => exact ⟨i + 1, z + q, by omega, by go_num, by go_num, rfl, HZN, HBW⟩
  obtain rfl : m = i := by omega
  have hz : z = bytesTo j 0 := by
   rw [HZ.out, HTZ.out.2.1, HOWN.out, List.take_of_length_le (by rw [← HNM.out.2]; exact Nat.le_refl _)]
   rfl
  have HZ2 := H_ hz
  clear hz HZ hlt
  go_upto_block 2 with fail
  go_wp2
  go_loopg [5, 6, 7, 9] n (fun gk x y t2 t wx => ∃ (i : Nat), i ≤ n ∧ x = .int .i64 (nodesTo j i : Int) ∧ y = .int .i64 (bytesTo j i : Int) ∧ t2 = .int .i64 (deepTo j i : Int) ∧ t = .int .i64 i ∧ gk = n - i ∧ Hid (Boxed w wx b 31 SV))
  case atStart => exact ⟨0, by omega, by rw [HTZ.out.1]; rfl, by rw [← HZ2.out], by rw [HTZ.out.2.2]; rfl, rfl, rfl, HBW⟩
  case round =>
   obtain ⟨i, hin, rfl, rfl, rfl, rfl, hgk, HBV⟩ := hrel
   have HGK := H_ hgk
   have c4 := (HBV.out.blk.cell 4).trans HC.out.2.1
   clear hgk c5 HZ2
   by_cases hlt : i < n
   ·obtain ⟨g, o, hAe, hrg⟩ := (HA.out.keep HBV.out.keep (fun _ _ _ h => h)) (by omega)
    subst hAe
    obtain ⟨x, hx⟩ : ∃ x, j.items[i]? = some x := ⟨_, List.getElem?_eq_getElem (by have := HNM.out.1; omega)⟩
    obtain ⟨hlen, hcall⟩ := HIH.out i x hx
    have hnx := HTN.out i x hx
    have hsm := HSM.out (i + 1)
    obtain ⟨SC, hSC⟩ : ∃ SC, SC = cs i := ⟨_, rfl⟩
    have hre := hrg i hlt
    rw [← hSC] at hlen hcall hre
    have HRE := H_ hre
    have HSI : Hid ((Tryz.prog.info? 31).map (·.size) = some SC.length) := H_ (by rw [hlen]; kernel_rfl)
    have HCALL := H_ (hcall wr HBV.out.keep)
    unfold SizePost at HCALL
    rw [hnx.1, hnx.2.1, hnx.2.2] at hsm
    have HNX := H_ hnx
    have hs0 := HSM.out i
    obtain ⟨a1, ha1⟩ : ∃ a, a = nodesTo j i := ⟨_, rfl⟩
    obtain ⟨a2, ha2⟩ : ∃ a, a = bytesTo j i := ⟨_, rfl⟩
    obtain ⟨a3, ha3⟩ : ∃ a, a = deepTo j i := ⟨_, rfl⟩
    obtain ⟨p1, hp1⟩ : ∃ a, a = x.nodes := ⟨_, rfl⟩
    obtain ⟨p2, hp2⟩ : ∃ a, a = x.bytes := ⟨_, rfl⟩
    obtain ⟨p3, hp3⟩ : ∃ a, a = x.deep := ⟨_, rfl⟩
    rw [← ha1, ← ha2, ← ha3] at hsm hs0 ⊢
    rw [← hp1, ← hp2, ← hp3] at hsm HCALL
    have HAP := H_ (And.intro (And.intro ha1 (And.intro ha2 ha3)) (And.intro hp1 (And.intro hp2 hp3)))
    clear hrg hx hlen hcall hnx hSC hre ha1 ha2 ha3 hp1 hp2 hp3
    by_cases hd : a3 < p3
    ·have HM : Hid (max a3 p3 = p3) := H_ (by omega)
     go_wp2_with (first
      | ((with_reducible show wpList _ _ _ (⟨some 43, _, _, _, _, _⟩ :: _) _ _); refine wpList_load_mid rfl 31 _ rfl _ _ rfl SC _ HRE.out Tryz.underlying31 rfl HSI.out ?_)
      | (go_at_call 42; refine HCALL.out.mono ?_; rintro e w4 ⟨rfl, hk4⟩; have HK4 := H_ hk4; clear hk4))
     go_roundg (n - (i + 1))
     case measure => rw [HGK.out]; omega
     case rel => exact ⟨i + 1, by omega, by rw [HNX.out.1, ← HAP.out.1.1, ← HAP.out.2.1]; go_num, by rw [HNX.out.2.1, ← HAP.out.1.2.1, ← HAP.out.2.2.1]; go_num, by rw [HNX.out.2.2, ← HAP.out.1.2.2, ← HAP.out.2.2.2, HM.out], by go_num, rfl, H_ (HBV.out.stay HK4.out)⟩
    have HM : Hid (max a3 p3 = a3) := H_ (by omega)
    go_wp2_with (first
     | ((with_reducible show wpList _ _ _ (⟨some 43, _, _, _, _, _⟩ :: _) _ _); refine wpList_load_mid rfl 31 _ rfl _ _ rfl SC _ HRE.out Tryz.underlying31 rfl HSI.out ?_)
     | (go_at_call 42; refine HCALL.out.mono ?_; rintro e w4 ⟨rfl, hk4⟩; have HK4 := H_ hk4; clear hk4))
    go_roundg (n - (i + 1))
    case measure => rw [HGK.out]; omega
    case rel => exact ⟨i + 1, by omega, by rw [HNX.out.1, ← HAP.out.1.1, ← HAP.out.2.1]; go_num, by rw [HNX.out.2.1, ← HAP.out.1.2.1, ← HAP.out.2.2.1]; go_num, by rw [HNX.out.2.2, ← HAP.out.1.2.2, ← HAP.out.2.2.2, HM.out], by go_num, rfl, H_ (HBV.out.stay HK4.out)⟩
   obtain rfl : n = i := by omega
   have hs0 := HSM.out n
   have HF := HTA
   obtain ⟨a3, ha3⟩ : ∃ a, a = deepTo j n := ⟨_, rfl⟩
   rw [← ha3] at hs0 HF ⊢
   clear ha3
   go_wp2
   go_ret3
   exact ⟨by rw [← HF.out.1, ← HF.out.2.1, ← HF.out.2.2]; rfl, HBV.out.keep⟩
theorem rsize_any : ∀ (j : JV), SmallJ j → JOk j → ∀ (D : Nat → Prop) (w : World) (v : List Value), RAt D w v j → Calls Tryz.prog 42 #[.agg v.toArray] w (SizePost w j) := by
 intro j hs hok
 induction hok with
 | mk j h1 h2 hp hr ht h ih =>
  intro D w v hv
  exact rsize_one w v j hv hs (.mk j h1 h2 hp hr ht h) fun x hx W u hu => ih x hx (hs.item hx) D W u hu
theorem rwithin_any {D : Nat → Prop} (w : World) (v : List Value) (j : JV) (h : RAt D w v j) (hs : SmallJ j) (hok : JOk j) :
  Calls Tryz.prog 11 #[.agg v.toArray] w fun e w' => e = .returned (.bool (decide j.within)) ∧ Keeps (fun _ => False) w w' := by
 have HB1 := H_ (Boxed.made w 31 v)
 have HCALL : Hid (∀ W, Keeps (fun _ => False) w W → Calls Tryz.prog 42 #[.agg v.toArray] W (SizePost W j)) := H_ fun W hW => rsize_any j hs hok D W v (h.stay hW)
 have HSI : Hid ((Tryz.prog.info? 31).map (·.size) = some v.length) := H_ (by rw [h.len]; kernel_rfl)
 have HD : Hid (∀ p1 p2 p3 : Nat, p1 = j.nodes → p2 = j.bytes → p3 = j.deep → decide j.within = (decide ((p1 : Int) ≤ 65536) && decide ((p2 : Int) ≤ 2097152) && decide ((p3 : Int) ≤ 512))) := H_ fun p1 p2 p3 e1 e2 e3 => by
  subst e1 e2 e3
  have q : ∀ (a b : Bool), (a = true ↔ b = true) → a = b := by decide
  refine q _ _ ⟨fun h => ?_, fun h => ?_⟩
  ·obtain ⟨h1, h2, h3⟩ := (of_decide_eq_true h : j.within)
   rw [decide_eq_true (by omega : (j.nodes : Int) ≤ 65536), decide_eq_true (by omega : (j.bytes : Int) ≤ 2097152), decide_eq_true (by omega : (j.deep : Int) ≤ 512)]
   rfl
  rw [Bool.and_eq_true, Bool.and_eq_true] at h
  have h1 := of_decide_eq_true h.1.1
  have h2 := of_decide_eq_true h.1.2
  have h3 := of_decide_eq_true h.2
  exact decide_eq_true ⟨by omega, by omega, by omega⟩
 obtain ⟨p1, hp1⟩ : ∃ a, a = j.nodes := ⟨_, rfl⟩
 obtain ⟨p2, hp2⟩ : ∃ a, a = j.bytes := ⟨_, rfl⟩
 obtain ⟨p3, hp3⟩ : ∃ a, a = j.deep := ⟨_, rfl⟩
 have HDD := H_ (HD.out p1 p2 p3 hp1 hp2 hp3)
 unfold SizePost at HCALL
 rw [← hp1, ← hp2, ← hp3] at HCALL
 clear h hs hok hp1 hp2 hp3 HD
 rw [HDD.out]
 go_enter Tryz.func11, Tryz.ntmps11
 obtain ⟨q1, hq1⟩ : ∃ q, q = decide ((p1 : Int) ≤ 65536) := ⟨_, rfl⟩
 obtain ⟨q2, hq2⟩ : ∃ q, q = decide ((p2 : Int) ≤ 2097152) := ⟨_, rfl⟩
 obtain ⟨q3, hq3⟩ : ∃ q, q = decide ((p3 : Int) ≤ 512) := ⟨_, rfl⟩
 rw [← hq1, ← hq2, ← hq3]
 have hq1' := hq1.symm
 have hq2' := hq2.symm
 have hq3' := hq3.symm
 clear hq1 hq2 hq3 HDD
 rcases q1 with _ | _ <;> rcases q2 with _ | _ <;> rcases q3 with _ | _
 all_goals
  go_wp2_with (first
   | ((with_reducible show wpList _ _ _ (⟨some 7, _, _, _, _, _⟩ :: _) _ _); refine wpList_load_whole rfl 31 _ rfl _ rfl HB1.out.blk Tryz.underlying31 rfl HSI.out ?_)
   | (go_at_call 42; refine (HCALL.out _ HB1.out.keep).mono ?_; rintro e w4 ⟨rfl, hk4⟩; have HK4 := H_ hk4; clear hk4))
  go_ret
  exact ⟨rfl, HB1.out.keep.trans HK4.out (fun _ _ h => h)⟩
end Go.Proofs.YtdmcioghdindfaaGreatDoor
namespace Go.Utf
theorem cmp_at {a b : List Int} {j : Nat} {x y : Int} (h : a.take j = b.take j) (ha : a[j]? = some x) (hb : b[j]? = some y) (hne : x ≠ y) : cmpB a b = difB x y := by
 obtain ⟨h1, e1⟩ := List.getElem?_eq_some_iff.1 ha
 obtain ⟨h2, e2⟩ := List.getElem?_eq_some_iff.1 hb
 have x1 : a = a.take j ++ (x :: a.drop (j + 1)) := by rw [← e1, ← List.drop_eq_getElem_cons h1, List.take_append_drop]
 have x2 : b = a.take j ++ (y :: b.drop (j + 1)) := by rw [h, ← e2, ← List.drop_eq_getElem_cons h2, List.take_append_drop]
 have x3 : cmpB a b = cmpB (a.take j ++ (x :: a.drop (j + 1))) (a.take j ++ (y :: b.drop (j + 1))) := by rw [← x1, ← x2]
 rw [x3, cmpB_self_append, cmpB_ne _ _ hne]
theorem cmp_pre {a b : List Int} (h : a = b.take a.length) : cmpB a b = if a.length < b.length then -1 else 0 := by
 have x2 : b = a ++ b.drop a.length := by
  have := (List.take_append_drop a.length b).symm
  rwa [← h] at this
 have x3 : cmpB a b = cmpB (a ++ []) (a ++ b.drop a.length) := by rw [List.append_nil, ← x2]
 rw [x3, cmpB_self_append]
 rcases hd : b.drop a.length with _ | ⟨z, l⟩
 ·rw [if_neg (by have := List.drop_eq_nil_iff.1 hd; omega)]; rfl
 ·rw [if_pos (by
   have : (b.drop a.length).length ≠ 0 := by rw [hd]; simp
   rw [List.length_drop] at this; omega)]
  rfl
theorem cmp_pre2 {a b : List Int} (h : b = a.take b.length) : cmpB a b = if b.length < a.length then 1 else 0 := by
 have x2 : a = b ++ a.drop b.length := by
  have := (List.take_append_drop b.length a).symm
  rwa [← h] at this
 have x3 : cmpB a b = cmpB (b ++ a.drop b.length) (b ++ []) := by rw [List.append_nil, ← x2]
 rw [x3, cmpB_self_append]
 rcases hd : a.drop b.length with _ | ⟨z, l⟩
 ·rw [if_neg (by have := List.drop_eq_nil_iff.1 hd; omega)]; rfl
 ·rw [if_pos (by
   have : (a.drop b.length).length ≠ 0 := by rw [hd]; simp
   rw [List.length_drop] at this; omega)]
  rfl
end Go.Utf
namespace Go.Proofs.YtdmcioghdindfaaGreatDoor
open Go Go.RowKit Go.Aff Go.Utf Go.Json
def cmpI (x y : Int) : Int := if x < y then -1 else if y < x then 1 else 0
theorem cmp_end {a b : ByteArray} {j : Nat} (h : (sb a).take j = (sb b).take j) (ha : j ≤ a.size) (hb : j ≤ b.size) (he : j = a.size ∨ j = b.size) : cmpB (sb a) (sb b) = cmpI a.size b.size := by
 have la := sb_len a
 have lb := sb_len b
 unfold cmpI
 rcases he with e | e
 ·rw [List.take_of_length_le (by omega)] at h
  rw [cmp_pre (by rw [la, ← e]; exact h), la, lb]
  by_cases h1 : a.size < b.size
  ·rw [if_pos h1, if_pos (by omega)]
  rw [if_neg h1, if_neg (by omega), if_neg (by omega)]
 rw [List.take_of_length_le (l := sb b) (by omega)] at h
 rw [cmp_pre2 (by rw [lb, ← e]; exact h.symm), la, lb]
 by_cases h1 : b.size < a.size
 ·rw [if_pos h1, if_neg (by omega), if_pos (by omega)]
 rw [if_neg h1, if_neg (by omega), if_neg (by omega)]
theorem notnan_int (w : World) (x : Int) : Calls Tryz.prog 134 #[.int .i64 x] w fun e w' => e = .returned (.bool false) ∧ w' = w := by
 have h : (x != x) = false := by simp
 go_enter Tryz.func134, Tryz.ntmps134
 go_wp2
 go_ret
 exact ⟨by first | rfl | simp, rfl⟩
theorem ccmp_int (w : World) (x y : Int) : Calls Tryz.prog 103 #[.int .i64 x, .int .i64 y] w fun e w' => e = .returned (.int .i64 (cmpI x y)) ∧ w' = w := by
 by_cases h1 : x < y
 ·have HC : Hid (cmpI x y = -1) := H_ (if_pos h1)
  go_enter Tryz.func103, Tryz.ntmps103
  go_wp2_with (go_at_call 134; refine (notnan_int _ _).mono ?_; rintro e w2 ⟨rfl, rfl⟩)
  go_ret
  exact ⟨by rw [HC.out]; rfl, rfl⟩
 by_cases h2 : y < x
 ·have HC : Hid (cmpI x y = 1) := H_ (by unfold cmpI; rw [if_neg h1, if_pos h2])
  go_enter Tryz.func103, Tryz.ntmps103
  go_wp2_with (go_at_call 134; refine (notnan_int _ _).mono ?_; rintro e w2 ⟨rfl, rfl⟩)
  go_ret
  exact ⟨by rw [HC.out]; rfl, rfl⟩
 have HC : Hid (cmpI x y = 0) := H_ (by unfold cmpI; rw [if_neg h1, if_neg h2])
 go_enter Tryz.func103, Tryz.ntmps103
 go_wp2_with (go_at_call 134; refine (notnan_int _ _).mono ?_; rintro e w2 ⟨rfl, rfl⟩)
 go_ret
 exact ⟨by rw [HC.out]; rfl, rfl⟩
theorem notnan_byte (w : World) (x : Int) : Calls Tryz.prog 135 #[.int .u8 x] w fun e w' => e = .returned (.bool false) ∧ w' = w := by
 have h : (x != x) = false := by simp
 go_enter Tryz.func135, Tryz.ntmps135
 go_wp2
 go_ret
 exact ⟨by first | rfl | simp, rfl⟩
theorem ccmp_byte (w : World) (x y : Int) : Calls Tryz.prog 105 #[.int .u8 x, .int .u8 y] w fun e w' => e = .returned (.int .i64 (cmpI x y)) ∧ w' = w := by
 by_cases h1 : x < y
 ·have HC : Hid (cmpI x y = -1) := H_ (if_pos h1)
  go_enter Tryz.func105, Tryz.ntmps105
  go_wp2_with (go_at_call 135; refine (notnan_byte _ _).mono ?_; rintro e w2 ⟨rfl, rfl⟩)
  go_ret
  exact ⟨by rw [HC.out]; rfl, rfl⟩
 by_cases h2 : y < x
 ·have HC : Hid (cmpI x y = 1) := H_ (by unfold cmpI; rw [if_neg h1, if_pos h2])
  go_enter Tryz.func105, Tryz.ntmps105
  go_wp2_with (go_at_call 135; refine (notnan_byte _ _).mono ?_; rintro e w2 ⟨rfl, rfl⟩)
  go_ret
  exact ⟨by rw [HC.out]; rfl, rfl⟩
 have HC : Hid (cmpI x y = 0) := H_ (by unfold cmpI; rw [if_neg h1, if_neg h2])
 go_enter Tryz.func105, Tryz.ntmps105
 go_wp2_with (go_at_call 135; refine (notnan_byte _ _).mono ?_; rintro e w2 ⟨rfl, rfl⟩)
 go_ret
 exact ⟨by rw [HC.out]; rfl, rfl⟩
theorem high_any (w : World) (x : Int) : Calls Tryz.prog 104 #[.int .u8 x] w fun e w' => e = .returned (.bool (highF x)) ∧ w' = w := by
 go_enter Tryz.func104, Tryz.ntmps104
 go_wp2
 go_ret
 exact ⟨rfl, rfl⟩
theorem byte_get {s : ByteArray} {j : Nat} (h : j < s.size) : (sb s)[j]? = some ((s.get j h).toNat : Int) := by
 unfold sb
 rw [List.getElem?_map]
 have hl : j < s.data.toList.length := by rw [Array.length_toList]; exact h
 rw [List.getElem?_eq_getElem hl]
 rfl
theorem compare_any (w : World) (a b : ByteArray) (ha : rightS a = true) (hb : rightS b = true) (hsa : a.size ≤ 1152921504606846976) (hsb : b.size ≤ 1152921504606846976) :
  Calls Tryz.prog 61 #[.string a, .string b] w fun e w' => e = .returned (.int .i64 (cmpB (sb a) (sb b))) ∧ Kp (fun _ => False) w w' := by
 have HRA := H_ fun W => rightK_any W a hsa
 have HRB := H_ fun W => rightK_any W b hsb
 rw [ha] at HRA
 rw [hb] at HRB
 obtain ⟨n, hn⟩ : ∃ n, n = a.size := ⟨_, rfl⟩
 obtain ⟨m, hm⟩ : ∃ m, m = b.size := ⟨_, rfl⟩
 have tk : True := trivial
 have hn' := hn.symm
 have hm' := hm.symm
 have HNM := H_ (And.intro hn hm)
 clear ha hb hn hm
 go_enter Tryz.func61, Tryz.ntmps61
 go_upto_block 1 with (first
  | (go_at_call 56; have _t := tk; clear tk; refine (HRA.out _).mono ?_; rintro e w1 ⟨rfl, hk1⟩; have HK1 := H_ hk1; clear hk1 _t)
  | (go_at_call 56; refine (HRB.out _).mono ?_; rintro e w2 ⟨rfl, hk2⟩; have HK2 := H_ (HK1.out.trans hk2 (fun _ _ h => h)); clear hk2))
 go_wp2
 go_loopg [7] n (fun gk t wx => ∃ j : Nat, j ≤ n ∧ j ≤ m ∧ t = .int .i64 j ∧ gk = n - j ∧ Hid (Kp (fun _ => False) w wx ∧ (sb a).take j = (sb b).take j))
 case atStart => exact ⟨0, by omega, by omega, rfl, by omega, H_ ⟨HK2.out, by simp⟩⟩
 case round =>
  obtain ⟨j, hjn, hjm, rfl, hgk, HI⟩ := hrel
  have HGK := H_ hgk
  clear hgk HRA HRB
  by_cases h1 : j < n
  ·have hja : (j : Int) < a.size := by omega
   by_cases h2 : j < m
   ·have hjb : (j : Int) < b.size := by omega
    obtain ⟨x, hx⟩ : ∃ x : Int, x = ((a.get j (by omega)).toNat : Int) := ⟨_, rfl⟩
    obtain ⟨y, hy⟩ : ∃ y : Int, y = ((b.get j (by omega)).toNat : Int) := ⟨_, rfl⟩
    have hia : ∀ W, (Instr.index 9 (.string a) (.int .i64 (j : Int))).run Tryz.prog W = .ok (.int .u8 x) W := fun W => by
     rw [run_index_string W 9 a .i64 j Tryz.underlying9, dif_pos ⟨by omega, hja⟩, hx]; rfl
    have hib : ∀ W, (Instr.index 9 (.string b) (.int .i64 (j : Int))).run Tryz.prog W = .ok (.int .u8 y) W := fun W => by
     rw [run_index_string W 9 b .i64 j Tryz.underlying9, dif_pos ⟨by omega, hjb⟩, hy]; rfl
    have HX : Hid ((sb a)[j]? = some x ∧ (sb b)[j]? = some y) := H_ ⟨by rw [hx]; exact byte_get (by omega), by rw [hy]; exact byte_get (by omega)⟩
    have hna : decide ((j : Int) < (n : Int)) = true := decide_eq_true (by omega)
    have hnb : decide ((j : Int) < (m : Int)) = true := decide_eq_true (by omega)
    obtain ⟨q, hq⟩ : ∃ q, q = (x == y) := ⟨_, rfl⟩
    have hqs := hq.symm
    have HQ : Hid (q = true ↔ x = y) := H_ (by rw [hq]; simp)
    clear hx hy hq hja hjb
    go_upto_region 9 with fail
    refine wp_region_held_drew (S := Kp (fun _ => False) wr) (by kernel_rfl) (Kp.refl (fun _ => False) _).drew (fun h_ => ?_)
    refine tI 0 32 h_ ?_
    try simp only [pu]
    refine tI 1 33 h_ ?_
    try simp only [pu]
    refine tI 2 34 h_ ?_
    try simp only [pu]
    refine tI 3 35 h_ ?_
    try simp only [pu]
    refine tI 4 36 h_ ?_
    try simp only [pu]
    refine tI 5 37 h_ ?_
    try simp only [pu]
    refine tI 6 38 h_ ?_
    try simp only [pu]
    refine tI 7 39 h_ ?_
    try simp only [pu]
    refine tI 8 40 h_ ?_
    try simp only [pu]
    refine tI 9 41 h_ ?_
    try simp only [pu]
    refine tI 10 42 h_ ?_
    try simp only [pu]
    refine tI 11 43 h_ ?_
    try simp only [pu]
    refine tI 12 44 h_ ?_
    try simp only [pu]
    refine tI 13 45 h_ ?_
    try simp only [pu]
    refine tI 14 46 h_ ?_
    try simp only [pu]
    refine tI 15 47 h_ ?_
    try simp only [pu]
    refine tI 16 48 h_ ?_
    try simp only [pu]
    refine tI 17 49 h_ ?_
    try simp only [pu]
    refine tI 18 50 h_ ?_
    try simp only [pu]
    refine wpAnyH_done (by kernel_rfl) ?_ _
    rcases q with _ | _
    ·have hne : x ≠ y := fun e => by have := HQ.out.2 e; cases this
     have HC := H_ (cmp_at HI.out.2 HX.out.1 HX.out.2 hne)
     have hjn0 : ((j : Int) == (n : Int)) = false := by simp; omega
     have hjm0 : ((j : Int) == (m : Int)) = false := by simp; omega
     clear hne
     go_upto_region 13 with fail
     refine wp_region_held_drew (S := Kp (fun _ => False) wr.drew) (by kernel_rfl) (Kp.refl (fun _ => False) _).drew (fun h_ => ?_)
     refine tI 0 68 h_ ?_
     try simp only [pu]
     refine tI 1 69 h_ ?_
     try simp only [pu]
     refine tI 2 70 h_ ?_
     try simp only [pu]
     refine tI 3 71 h_ ?_
     try simp only [pu]
     refine tI 4 72 h_ ?_
     try simp only [pu]
     refine tI 5 73 h_ ?_
     try simp only [pu]
     refine tI 6 8 h_ ?_
     try simp only [pu]
     refine tI 7 9 h_ ?_
     try simp only [pu]
     refine wpAnyH_done (by kernel_rfl) ?_ _
     have HK3 := H_ (HI.out.1.drew.trans h_ (fun _ _ h => h))
     have HHX := H_ fun W => high_any W x
     have HHY := H_ fun W => high_any W y
     have HCB := H_ fun W => ccmp_byte W x y
     obtain ⟨bx, hbx⟩ : ∃ q, q = highF x := ⟨_, rfl⟩
     obtain ⟨by', hby⟩ : ∃ q, q = highF y := ⟨_, rfl⟩
     obtain ⟨cx, hcx⟩ : ∃ q, q = decide (238 ≤ x) := ⟨_, rfl⟩
     obtain ⟨cy, hcy⟩ : ∃ q, q = decide (238 ≤ y) := ⟨_, rfl⟩
     have hcx' := hcx.symm
     have hcy' := hcy.symm
     have HD : Hid (difB x y = if (bx && !by' && cy) = true then -1 else if (by' && !bx && cx) = true then 1 else if x < y then -1 else 1) := H_ (by rw [hbx, hby, hcx, hcy]; rfl)
     have hne : x ≠ y := fun e => by have := HQ.out.2 e; cases this
     have HCMP : Hid (cmpI x y = if x < y then -1 else 1) := H_ (by
      unfold cmpI
      by_cases h : x < y
      ·rw [if_pos h, if_pos h]
      rw [if_neg h, if_neg h, if_pos (by omega)])
     rw [← hbx] at HHX
     rw [← hby] at HHY
     clear h_ hbx hby hcx hcy hne
     have tk2 : True := trivial
     rcases bx with _ | _ <;> rcases by' with _ | _ <;> rcases cx with _ | _ <;> rcases cy with _ | _
     all_goals
      go_wp2_with (first
       | (go_at_call 104; first | (refine (HHX.out _).mono ?_; rintro e w3 ⟨rfl, rfl⟩) | (refine (HHY.out _).mono ?_; rintro e w3 ⟨rfl, rfl⟩))
       | (go_at_call 105; refine (HCB.out _).mono ?_; rintro e w3 ⟨rfl, rfl⟩))
      go_ret
      refine ⟨?_, HK3.out⟩
      rw [HC.out, HD.out]
      first
       | rfl
       | (show Ending.returned (.int .i64 (cmpI x y)) = _; rw [HCMP.out]; rfl)
    ·have HT : Hid ((sb a).take (j + 1) = (sb b).take (j + 1)) := H_ (by
      rw [List.take_add_one, List.take_add_one, HI.out.2, HX.out.1, HX.out.2, HQ.out.1 rfl])
     go_wp2
     go_roundg (n - (j + 1))
     case measure => rw [HGK.out]; omega
     case rel => exact ⟨j + 1, by omega, by omega, by go_num, rfl, H_ ⟨HI.out.1.drew, HT.out⟩⟩
   have hna : decide ((j : Int) < (n : Int)) = true := decide_eq_true (by omega)
   have hnb : decide ((j : Int) < (m : Int)) = false := decide_eq_false (by omega)
   have hjm0 : ((j : Int) == (m : Int)) = true := by simp; omega
   have hjn0 : ((j : Int) == (n : Int)) = false := by simp; omega
   go_upto_region 9 with fail
   refine wp_region_held_drew (S := Kp (fun _ => False) wr) (by kernel_rfl) (Kp.refl (fun _ => False) _).drew (fun h_ => ?_)
   refine tI 0 32 h_ ?_
   try simp only [pu]
   refine tI 1 33 h_ ?_
   try simp only [pu]
   refine tI 2 34 h_ ?_
   try simp only [pu]
   refine tI 3 35 h_ ?_
   try simp only [pu]
   refine tI 4 36 h_ ?_
   try simp only [pu]
   refine tI 5 37 h_ ?_
   try simp only [pu]
   refine tI 6 38 h_ ?_
   try simp only [pu]
   refine tI 7 39 h_ ?_
   try simp only [pu]
   refine tI 8 40 h_ ?_
   try simp only [pu]
   refine tI 9 41 h_ ?_
   try simp only [pu]
   refine tI 10 42 h_ ?_
   try simp only [pu]
   refine tH (i := 11) (oi := ⟨some 43, _, _, _, _, _⟩) (v := undef) rfl (Or.inr ⟨by rfl, rfl⟩) h_ ?_
   try simp only [pu]
   refine tH (i := 12) (oi := ⟨some 44, _, _, _, _, _⟩) (v := undef) rfl (Or.inr ⟨by rfl, rfl⟩) h_ ?_
   try simp only [pu]
   refine tH (i := 13) (oi := ⟨some 45, _, _, _, _, _⟩) (v := undef) rfl (Or.inr ⟨by rfl, rfl⟩) h_ ?_
   try simp only [pu]
   refine tH (i := 14) (oi := ⟨some 46, _, _, _, _, _⟩) (v := undef) rfl (Or.inr ⟨by rfl, rfl⟩) h_ ?_
   try simp only [pu]
   refine tH (i := 15) (oi := ⟨some 47, _, _, _, _, _⟩) (v := undef) rfl (Or.inr ⟨by rfl, rfl⟩) h_ ?_
   try simp only [pu]
   refine tH (i := 16) (oi := ⟨some 48, _, _, _, _, _⟩) (v := undef) rfl (Or.inr ⟨by rfl, rfl⟩) h_ ?_
   try simp only [pu]
   refine tH (i := 17) (oi := ⟨some 49, _, _, _, _, _⟩) (v := undef) rfl (Or.inr ⟨by rfl, rfl⟩) h_ ?_
   try simp only [pu]
   refine tI 18 50 h_ ?_
   try simp only [pu]
   refine wpAnyH_done (by kernel_rfl) ?_ _
   have HC := H_ (cmp_end HI.out.2 (by rw [hn']; exact hjn) (by rw [hm']; exact hjm) (by rw [hn', hm']; omega))
   rw [hn', hm'] at HC
   have HCI := H_ fun W => ccmp_int W (n : Int) (m : Int)
   go_wp2_with (go_at_call 103; refine (HCI.out _).mono ?_; rintro e w3 ⟨rfl, rfl⟩)
   go_ret
   exact ⟨by rw [HC.out]; rfl, HI.out.1.drew⟩
  have hna : decide ((j : Int) < (n : Int)) = false := decide_eq_false (by omega)
  have hjn0 : ((j : Int) == (n : Int)) = true := by simp; omega
  go_upto_region 9 with fail
  refine wp_region_held_drew (S := Kp (fun _ => False) wr) (by kernel_rfl) (Kp.refl (fun _ => False) _).drew (fun h_ => ?_)
  refine tI 0 32 h_ ?_
  try simp only [pu]
  refine tI 1 33 h_ ?_
  try simp only [pu]
  refine tI 2 34 h_ ?_
  try simp only [pu]
  refine tI 3 35 h_ ?_
  try simp only [pu]
  refine tI 4 36 h_ ?_
  try simp only [pu]
  refine tH (i := 5) (oi := ⟨some 37, _, _, _, _, _⟩) (v := undef) rfl (Or.inr ⟨by rfl, rfl⟩) h_ ?_
  try simp only [pu]
  refine tH (i := 6) (oi := ⟨some 38, _, _, _, _, _⟩) (v := undef) rfl (Or.inr ⟨by rfl, rfl⟩) h_ ?_
  try simp only [pu]
  refine tH (i := 7) (oi := ⟨some 39, _, _, _, _, _⟩) (v := undef) rfl (Or.inr ⟨by rfl, rfl⟩) h_ ?_
  try simp only [pu]
  refine tH (i := 8) (oi := ⟨some 40, _, _, _, _, _⟩) (v := undef) rfl (Or.inr ⟨by rfl, rfl⟩) h_ ?_
  try simp only [pu]
  refine tI 9 41 h_ ?_
  try simp only [pu]
  refine tI 10 42 h_ ?_
  try simp only [pu]
  refine tH (i := 11) (oi := ⟨some 43, _, _, _, _, _⟩) (v := undef) rfl (Or.inr ⟨by rfl, rfl⟩) h_ ?_
  try simp only [pu]
  refine tH (i := 12) (oi := ⟨some 44, _, _, _, _, _⟩) (v := undef) rfl (Or.inr ⟨by rfl, rfl⟩) h_ ?_
  try simp only [pu]
  refine tH (i := 13) (oi := ⟨some 45, _, _, _, _, _⟩) (v := undef) rfl (Or.inr ⟨by rfl, rfl⟩) h_ ?_
  try simp only [pu]
  refine tH (i := 14) (oi := ⟨some 46, _, _, _, _, _⟩) (v := undef) rfl (Or.inr ⟨by rfl, rfl⟩) h_ ?_
  try simp only [pu]
  refine tH (i := 15) (oi := ⟨some 47, _, _, _, _, _⟩) (v := undef) rfl (Or.inr ⟨by rfl, rfl⟩) h_ ?_
  try simp only [pu]
  refine tH (i := 16) (oi := ⟨some 48, _, _, _, _, _⟩) (v := undef) rfl (Or.inr ⟨by rfl, rfl⟩) h_ ?_
  try simp only [pu]
  refine tH (i := 17) (oi := ⟨some 49, _, _, _, _, _⟩) (v := undef) rfl (Or.inr ⟨by rfl, rfl⟩) h_ ?_
  try simp only [pu]
  refine tI 18 50 h_ ?_
  try simp only [pu]
  refine wpAnyH_done (by kernel_rfl) ?_ _
  have HC := H_ (cmp_end HI.out.2 (by rw [hn']; exact hjn) (by rw [hm']; exact hjm) (by rw [hn', hm']; omega))
  rw [hn', hm'] at HC
  have HCI := H_ fun W => ccmp_int W (n : Int) (m : Int)
  go_wp2_with (go_at_call 103; refine (HCI.out _).mono ?_; rintro e w3 ⟨rfl, rfl⟩)
  go_ret
  exact ⟨by rw [HC.out]; rfl, HI.out.1.drew⟩
end Go.Proofs.YtdmcioghdindfaaGreatDoor
