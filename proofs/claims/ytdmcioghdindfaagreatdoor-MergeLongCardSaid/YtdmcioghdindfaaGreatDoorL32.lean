/- Texts. -/
import Derived.Test.YtdmcioghdindfaaGreatDoorL24
set_option linter.unusedSimpArgs false
set_option maxRecDepth 100000
set_option maxHeartbeats 4000000
namespace Go.Proofs.YtdmcioghdindfaaGreatDoor
open Go Go.RowKit Go.Aff Go.Json
structure StepsIn (w : World) (A : Option Addr) (n : Nat) (css : List (List Value)) (l : List StepV) : Prop where
 rd : RdS 6 w A n css.flatten
 len : l.length = n
 cells : css.length = n
 at_ : ∀ (i : Nat) (s : StepV), l[i]? = some s → ∃ B d, css[i]? = some (stepV s B d) ∧ Rd w B s.keys.length (s.keys.map .string) ∧ s.keys.length ≤ d
section
variable {w w' : World} {A : Option Addr} {n : Nat} {css : List (List Value)} {l : List StepV}
theorem StepsIn.stay (h : StepsIn w A n css l) (hk : Keeps (fun _ => False) w w') : StepsIn w' A n css l := ⟨h.rd.stay hk, h.len, h.cells, fun i s hs => by
 obtain ⟨B, d, h1, h2, h3⟩ := h.at_ i s hs
 exact ⟨B, d, h1, h2.keep hk (fun _ _ _ h => h), h3⟩⟩
theorem StepsIn.six (h : StepsIn w A n css l) : ∀ c ∈ css, c.length = 6 ∧ ∀ u ∈ c, u.oneCell' = true := fun c hc => by
 obtain ⟨i, hi⟩ := List.getElem?_of_mem hc
 have hlt := (List.getElem?_eq_some_iff.1 hi).1
 obtain ⟨s, hs⟩ : ∃ s, l[i]? = some s := ⟨_, List.getElem?_eq_getElem (by rw [h.len, ← h.cells]; exact hlt)⟩
 obtain ⟨B, d, h1, _, _⟩ := h.at_ i s hs
 rw [hi] at h1
 injection h1 with h1
 rw [h1]
 exact ⟨rfl, stepV_one _ _ _⟩
theorem StepsIn.to (h : StepsIn w A n css l) : StepsR w A l := fun k s hs => by
 have hk := (List.getElem?_eq_some_iff.1 hs).1
 rw [h.len] at hk
 obtain ⟨B, d, h1, h2, h3⟩ := h.at_ k s hs
 obtain ⟨g, o, e, hc⟩ := h.rd.2 (by omega)
 exact ⟨g, o, B, d, e, item_range hc hk (fun c hc => (h.six c hc).1) h1, h2, h3⟩
end
def bulkS (s : StepV) : Nat := 1 + s.text.size + s.keys.length + byF s.keys
structure Modest (l : List StepV) : Prop where
 all : sumN (l.map bulkS) ≤ 1048576
 bits : ∀ s ∈ l, s.bits < 18446744073709551616
 count : ∀ s ∈ l, s.count ≤ 9223372036854775807
theorem Modest.one {l : List StepV} (h : Modest l) {s : StepV} (hs : s ∈ l) : bulkS s ≤ 1048576 := Nat.le_trans (sumN_mem (List.mem_map.2 ⟨s, hs, rfl⟩)) h.all
theorem Modest.len {l : List StepV} (h : Modest l) : l.length ≤ 1048576 := by
 have : ∀ m : List StepV, m.length ≤ sumN (m.map bulkS) := by
  intro m
  induction m with
  | nil => exact Nat.zero_le _
  | cons a m ih => simp only [List.map_cons, sumN, List.length_cons]; unfold bulkS; unfold bulkS at ih; omega
 exact Nat.le_trans (this l) h.all
theorem Modest.fits {l : List StepV} (h : Modest l) : ∀ s ∈ l, StepFits2 s := fun s hs => by
 have h1 := h.one hs
 unfold bulkS at h1
 exact ⟨⟨by omega, by omega, by omega, h.bits s hs⟩, h.count s hs⟩
theorem results_tct {P : Program} {w : World} {g : Nat} {t : TypeId} {cs : List Value} {fn : Func} {u0 p u u2 : Tmp} {ty : TypeId} (h : fn.results = #[.tmp u0, .cell p ty, .tmp u, .tmp u2]) (tmps : Array Value) (d : TypeDesc)
  (hp : tmps.getD p undef = .pointer (some ⟨g, 0, none⟩)) (hg : Blk w g t cs)
  (hu : P.underlying ty = some d) (hd : (match d with | .struct _ | .array _ _ => true | _ => false) = true) (hi : (P.info? ty).map (·.size) = some cs.length) :
  (results fn tmps).run P w = .ok (.tuple #[tmps.getD u0 undef, .agg cs.toArray, tmps.getD u undef, tmps.getD u2 undef]) w := by
 have hl := run_loadVar_row (P := P) w g t ty cs.toArray (0, 0) d hg hu hd (by simpa using hi)
 have hp' : tmps[p]?.getD undef = .pointer (some ⟨g, 0, none⟩) := by simpa using hp
 simp [results, h, hp', asAddr, hl, Sem.run_bind, Result.andThen]
def LMadePost (w : World) (l : List StepV) (e : Ending) (w' : World) : Prop := Keeps (fun _ => False) w w' ∧ match buildF l with
 | .inl _ => e = .returned (.tuple #[.pointer none, .agg valZ.toArray, .bool false, .bool true])
 | .inr j => ∃ q v rv, e = .returned (.tuple #[.pointer (some ⟨q, 0, none⟩), .agg rv.toArray, .bool true, .bool true]) ∧ TreeAt (fun i => w.heap.size ≤ i) w' q v j ∧ RAt (fun i => w.heap.size ≤ i) w' rv j
structure Copying (w1 wx : World) (L : Option Addr) (i cl : Nat) (css : List (List Value)) : Prop where
 own : MineS 6 w1 wx 65 L i cl (css.take i).flatten
theorem rep_take {css : List (List Value)} {i : Nat} {cs : List Value} (h : css[i]? = some cs) : (css.take (i + 1)).flatten = (css.take i).flatten ++ cs := by
 rw [List.take_add_one, h]
 simp
theorem buildF_few {l : List StepV} {j : JV} (h : buildF l = .inr j) : l.length ≤ 65536 := by
 unfold buildF at h
 split at h
 ·cases h
 omega
theorem rowF_inl : ∀ (l : List StepV) (i : Nat) (P : List JV) (k : Int) (a : Nat), rowF i P l = .inl (k, a) → k ≠ 0
 | [], _, _, _, _, h => by cases h
 | s :: l, i, P, k, a, h => by
  unfold rowF at h
  cases hd : doF P s with
  | inl e =>
   rw [hd] at h
   injection h with h
   injection h with h1 h2
   rw [← h1]
   exact doF_inl hd
  | inr Q =>
   rw [hd] at h
   exact rowF_inl l (i + 1) Q k a h
theorem buildF_inl {l : List StepV} {k : Int} {a : Option Nat} (h : buildF l = .inl (k, a)) : k ≠ 0 := by
 unfold buildF at h
 split at h
 ·injection h with h; injection h with h1 _; omega
 split at h
 ·rename_i e i hr
  injection h with h
  injection h with h1 h2
  rw [← h1]
  exact rowF_inl l 0 [] e i hr
 split at h
 ·cases h
 injection h with h; injection h with h1 _; omega
theorem lmade_any (w : World) (A : Option Addr) (n c : Nat) (css : List (List Value)) (l : List StepV) (hS : StepsIn w A n css l) (hM : Modest l) :
  Calls Tryz.prog 8 #[.slice A n c] w (LMadePost w l) := by
 have HS := H_ hS
 have HM := H_ hM
 have hn : n ≤ 1048576 := by rw [← hS.len]; exact hM.len
 have HB0 := H_ (And.intro ((Keeps.refl (fun _ => False) w).alloc (.cells valZ.toArray 31)) (Blk.new w 31 valZ))
 unfold valZ at HB0
 clear hS hM
 go_enter Tryz.func8, Tryz.ntmps8
 go_upto_block 0 with fail
 obtain ⟨b, hb⟩ : ∃ b, b = w.heap.size := ⟨_, rfl⟩
 rw [← hb] at HB0 ⊢
 refine gen_codeF (fun W => Keeps (fun _ => False) w W ∧ Blk W b 31 [.int .i64 0, .bool false, .int .u64 0, .string .empty, .slice none 0 0, .slice none 0 0]) HB0.out ?_
 intro w1 hb1
 have HB1 := H_ hb1
 have HBW := H_ hb
 clear hb1 HB0 hb
 go_wp2
 go_loopg [6, 7] n (fun gk y t wx => ∃ (i : Nat) (L : Option Addr) (cl : Nat), i ≤ n ∧ y = .slice L i cl ∧ t = .int .i64 i ∧ gk = n - i ∧ Hid (Copying w1 wx L i cl css))
 case atStart => exact ⟨0, none, 0, by omega, rfl, rfl, rfl, H_ ⟨by rw [List.take_zero]; exact MineS.nil 6 w1 _⟩⟩
 case round =>
  obtain ⟨i, L, cl, hin, rfl, rfl, hgk, HO⟩ := hrel
  have HGK := H_ hgk
  clear hgk
  have HKR : Hid (Keeps (fun _ => False) w wr) := H_ (HB1.out.1.trans HO.out.own.2.1 (fun _ _ h => h))
  by_cases hlt : i < n
  ·have hI := HS.out.stay HKR.out
   obtain ⟨s, hs⟩ : ∃ s, l[i]? = some s := ⟨_, List.getElem?_eq_getElem (by rw [hI.len]; exact hlt)⟩
   obtain ⟨B, d, hcs, _, _⟩ := hI.at_ i s hs
   obtain ⟨g, o, hA, hc⟩ := hI.rd.2 (by omega)
   subst hA
   have hrg := item_range hc hlt (fun c hc => (hI.six c hc).1) hcs
   obtain ⟨kl, hkl⟩ : ∃ kl, kl = s.keys.length := ⟨_, rfl⟩
   have HX : Hid (wr.cell? ⟨g, o + i * 6, none⟩ = some (.int .i64 s.sort) ∧ wr.cell? ⟨g, o + i * 6 + 1, none⟩ = some (.bool s.flag) ∧ wr.cell? ⟨g, o + i * 6 + 2, none⟩ = some (.int .u64 s.bits) ∧ wr.cell? ⟨g, o + i * 6 + 3, none⟩ = some (.string s.text) ∧ wr.cell? ⟨g, o + i * 6 + 4, none⟩ = some (.int .i64 s.count) ∧ wr.cell? ⟨g, o + i * 6 + 5, none⟩ = some (.slice B kl d)) := H_ ⟨by have := hrg 0 _ rfl; simpa using this, hrg 1 _ rfl, hrg 2 _ rfl, hrg 3 _ rfl, hrg 4 _ rfl, by rw [hkl]; exact hrg 5 _ rfl⟩
   have HNX : Hid ((css.take (i + 1)).flatten = (css.take i).flatten ++ [.int .i64 s.sort, .bool s.flag, .int .u64 s.bits, .string s.text, .int .i64 s.count, .slice B kl d]) := H_ (by rw [hkl]; exact rep_take hcs)
   have hi0 : (0 : Int) ≤ (i : Int) := by omega
   have hiN : (i : Int) < (n : Int) := by omega
   clear hI hs hcs hc hrg hkl
   go_upto_region 5 with fail
   refine wp_region_tail (S := Keeps (fun _ => False) wr) 33 (by kernel_rfl) (Keeps.refl _ _).drew (fun h_ => ?_)
   refine tJ 0 19 ?_
   try simp only [pu]
   refine tJ 1 20 ?_
   try simp only [pu]
   refine tJ 2 21 ?_
   try simp only [pu]
   refine tJ 3 22 ?_
   try simp only [pu]
   refine tJ 4 23 ?_
   try simp only [pu]
   refine tT [5, 31, 32] (i := 5) (oi := ⟨some 24, _, _, _, _, _⟩) (v := ?_) rfl (Or.inl ⟨by rfl, ?_⟩) h_ ?_
   rotate_left
   ·intro w' hSw
    have cv := cell_keep hSw HX.out.1
    go_simp
    first | done | rfl
   try simp only [pu]
   refine tJ 6 25 ?_
   try simp only [pu]
   refine tJ 7 26 ?_
   try simp only [pu]
   refine tJ 8 27 ?_
   try simp only [pu]
   refine tJ 9 28 ?_
   try simp only [pu]
   refine tT [10, 31, 32] (i := 10) (oi := ⟨some 29, _, _, _, _, _⟩) (v := ?_) rfl (Or.inl ⟨by rfl, ?_⟩) h_ ?_
   rotate_left
   ·intro w' hSw
    have cv := cell_keep hSw HX.out.2.1
    go_simp
    first | done | rfl
   try simp only [pu]
   refine tJ 11 30 ?_
   try simp only [pu]
   refine tJ 12 31 ?_
   try simp only [pu]
   refine tJ 13 32 ?_
   try simp only [pu]
   refine tJ 14 33 ?_
   try simp only [pu]
   refine tT [15, 31, 32] (i := 15) (oi := ⟨some 34, _, _, _, _, _⟩) (v := ?_) rfl (Or.inl ⟨by rfl, ?_⟩) h_ ?_
   rotate_left
   ·intro w' hSw
    have cv := cell_keep hSw HX.out.2.2.1
    go_simp
    first | done | rfl
   try simp only [pu]
   refine tJ 16 35 ?_
   try simp only [pu]
   refine tJ 17 36 ?_
   try simp only [pu]
   refine tJ 18 37 ?_
   try simp only [pu]
   refine tJ 19 38 ?_
   try simp only [pu]
   refine tT [20, 31, 32] (i := 20) (oi := ⟨some 39, _, _, _, _, _⟩) (v := ?_) rfl (Or.inl ⟨by rfl, ?_⟩) h_ ?_
   rotate_left
   ·intro w' hSw
    have cv := cell_keep hSw HX.out.2.2.2.1
    go_simp
    first | done | rfl
   try simp only [pu]
   refine tJ 21 40 ?_
   try simp only [pu]
   refine tJ 22 41 ?_
   try simp only [pu]
   refine tJ 23 42 ?_
   try simp only [pu]
   refine tJ 24 43 ?_
   try simp only [pu]
   refine tT [25, 31, 32] (i := 25) (oi := ⟨some 44, _, _, _, _, _⟩) (v := ?_) rfl (Or.inl ⟨by rfl, ?_⟩) h_ ?_
   rotate_left
   ·intro w' hSw
    have cv := cell_keep hSw HX.out.2.2.2.2.1
    go_simp
    first | done | rfl
   try simp only [pu]
   refine tJ 26 45 ?_
   try simp only [pu]
   refine tJ 27 46 ?_
   try simp only [pu]
   refine tJ 28 47 ?_
   try simp only [pu]
   refine tJ 29 48 ?_
   try simp only [pu]
   refine tT [30, 31, 32] (i := 30) (oi := ⟨some 49, _, _, _, _, _⟩) (v := ?_) rfl (Or.inl ⟨by rfl, ?_⟩) h_ ?_
   rotate_left
   ·intro w' hSw
    have cv := cell_keep hSw HX.out.2.2.2.2.2
    go_simp
    first | done | rfl
   try simp only [pu]
   refine tJ 31 50 ?_
   try simp only [pu]
   refine wpAnyT_step (i := 32) (o := ⟨some 51, _, _, _, _, _⟩) (by kernel_rfl) rfl (fun K hK => ?_)
   refine step_box_S rfl 63 65 (.tmp 50) rfl (.agg #[.int .i64 0, .bool false, .int .u64 0, .string .empty, .int .i64 0, .slice none 0 0]) 6 Tryz.underlying63 infoStep2 (by decide) (by decide) [.int .i64 s.sort, .bool s.flag, .int .u64 s.bits, .string s.text, .int .i64 s.count, .slice B kl d] rfl rfl ?_
   refine hK.out _ _ (h_.alloc _) (fun h_ => ?_)
   clear hK K
   try simp only [pu]
   refine wpAnyT_tail (i := 33) (o := ⟨some 52, _, _, _, _, _⟩) (by kernel_rfl) (by kernel_rfl) rfl (fun K hK => ?_)
   refine step_append_own rfl (.tmp 19) (.tmp 51) 63 rfl 65 (.agg #[.int .i64 0, .bool false, .int .u64 0, .string .empty, .int .i64 0, .slice none 0 0]) 6 72 Tryz.underlying63 infoStep rfl (by decide) L i cl _ rfl (HO.out.own.keep h_).1 ⟨wr.drew.heap.size, 0, none⟩ 1 1 [.int .i64 s.sort, .bool s.flag, .int .u64 s.bits, .string s.text, .int .i64 s.count, .slice B kl d] rfl rfl (fun j u hu => by rw [add_at, Nat.zero_add]; exact ((Blk.new _ _ _).cell j).trans hu) (by intro u hu; simp only [List.mem_cons, List.not_mem_nil, or_false] at hu; rcases hu with rfl | rfl | rfl | rfl | rfl | rfl <;> rfl) (by simp only [maxLen]; omega) (by omega) ?_
   intro A5 c5 w5 hown5 hg5 hb5
   have HM5 := H_ ((HO.out.own.keep h_).grown hown5 hg5 hb5)
   refine hK.out _ _ ?_
   clear hK K
   try simp only [pu]
   refine wpAnyT_tail (i := 34) (o := ⟨some 6, _, _, _, _, _⟩) (by kernel_rfl) (by kernel_rfl) rfl (fun K hK => ?_)
   go_simp
   refine hK.out _ _ ?_
   clear hK K
   try simp only [pu]
   refine wpAnyT_done (by kernel_rfl) ?_
   go_wp2
   go_roundg (n - (i + 1))
   case measure => rw [HGK.out]; omega
   case rel => exact ⟨i + 1, A5, c5, by omega, rfl, by go_num, rfl, H_ ⟨by rw [HNX.out]; exact HM5.out⟩⟩
  obtain rfl : i = n := by omega
  have HO2 : Hid (StepsIn wr L i css l ∧ MineS 6 w1 wr 65 L i cl css.flatten) := H_ (by
   have hI := HS.out.stay HKR.out
   have h1 := HO.out.own
   rw [List.take_of_length_le (by rw [hI.cells]; exact Nat.le_refl _)] at h1
   exact ⟨⟨MineS.rdS h1, hI.len, hI.cells, hI.at_⟩, h1⟩)
  have HRB : Hid (Calls Tryz.prog 26 #[.slice L i cl] wr (BuildRPost wr l)) := H_ (rbuild_any wr L i cl l HO2.out.1.len HO2.out.1.to HM.out.fits)
  have HNB : Hid (∀ W, Keeps (fun _ => False) w W → Calls Tryz.prog 17 #[.slice A i c] W (BuildPost W l)) := H_ fun W hW => Build_any W A i c l HS.out.len (HS.out.stay hW).to.at_ fun s hs => (HM.out.fits s hs).fits
  unfold BuildRPost at HRB
  unfold BuildPost at HNB
  have HBF : Hid (∀ W, Keeps (fun _ => False) wr W → Blk W b 31 [.int .i64 0, .bool false, .int .u64 0, .string .empty, .slice none 0 0, .slice none 0 0]) := H_ fun W hW => (HO.out.own.2.1.trans hW (fun _ _ h => h)).blk HB1.out.2 (fun h => h)
  have HKW1 : Hid (Keeps (fun _ => False) w wr) := HKR
  cases hbf : buildF l with
  | inl ko =>
   obtain ⟨k, o⟩ := ko
   have HR : Hid (∃ at_ : Int, Calls Tryz.prog 26 #[.slice L i cl] wr fun e w' => e = .returned (.tuple #[.agg #[.int .i64 0, .bool false, .int .u64 0, .string .empty, .slice none 0 0, .slice none 0 0], .int .i64 k, .int .i64 at_]) ∧ Keeps (fun _ => False) wr w') := H_ (by
    have h1 := HRB.out
    rw [hbf] at h1
    cases o with
    | none => exact ⟨-1, h1.mono fun e w' h => ⟨h.2, h.1⟩⟩
    | some a => exact ⟨a, h1.mono fun e w' h => ⟨h.2, h.1⟩⟩)
   have HN2 : Hid (∃ T x, ∀ W, Keeps (fun _ => False) w W → Calls Tryz.prog 17 #[.slice A i c] W fun e w' => e = .returned (.tuple #[.pointer none, .iface T x]) ∧ Keeps (fun _ => False) W w') := H_ (by
    have h1 := HNB.out
    rw [hbf] at h1
    cases o with
    | none => exact ⟨_, _, fun W hW => (h1 W hW).mono fun e w' h => ⟨h.2, h.1⟩⟩
    | some a => exact ⟨_, _, fun W hW => (h1 W hW).mono fun e w' h => ⟨h.2, h.1⟩⟩)
   obtain ⟨at_, hr⟩ := HR.out
   obtain ⟨T, x, hnb⟩ := HN2.out
   have HR3 := H_ hr
   have HN3 := H_ hnb
   have hk0 : (k != 0) = true := by have := buildF_inl hbf; simpa using this
   have HBFL := H_ hbf
   have HV1 : Hid (∀ u ∈ valZ, u.oneCell' = true) := H_ (by intro u hu; simp only [valZ, List.mem_cons, List.not_mem_nil, or_false] at hu; rcases hu with rfl | rfl | rfl | rfl | rfl | rfl <;> rfl)
   clear hr hnb HR HN2 HRB HNB hbf
   go_upto_region 9 with (first
    | (go_at_call 26; refine HR3.out.mono ?_; rintro e w2 ⟨rfl, hk2⟩; have HK2 := H_ hk2; clear hk2)
    | ((with_reducible show wpList _ _ _ (⟨none, Op.store 31 (.tmp 8) _, _, _, _, _⟩ :: _) _ _); refine wpList_store_whole rfl 31 _ _ rfl valZ rfl rfl (Blk.new _ 31 valZ) rfl (by kernel_rfl) HV1.out ?_; refine gen_world (fun W => Keeps (fun _ => False) w2 W ∧ Blk W w2.heap.size 31 valZ) ⟨((Keeps.refl _ w2).alloc _).setRow (.inr (Nat.le_refl _)) _, (Blk.new w2 31 valZ).setRow valZ⟩ ?_; rintro w3 ⟨hk3, hb3⟩; have HK3 := H_ (HK2.out.trans hk3 (fun _ _ h => h)); have HB3 := H_ hb3; clear hk3 hb3)
    | (go_at_call 17; refine (HN3.out _ (HKW1.out.trans HK3.out (fun _ _ h => h))).mono ?_; rintro e w4 ⟨rfl, hk4⟩; have HK4 := H_ (HK3.out.trans hk4 (fun _ _ h => h)); have HB4 := H_ (hk4.blk HB3.out (fun h => h)); clear hk4))
   have HP8 : Hid (w2.heap.size ≠ b ∧ b = w.heap.size) := H_ ⟨by have h1 := HB1.out.2.lt; have h2 := HO.out.own.2.1.size; have h3 := HK2.out.size; omega, HBW.out⟩
   obtain ⟨p8, hp8⟩ : ∃ p8, p8 = w2.heap.size := ⟨_, rfl⟩
   rw [← hp8] at HB4 HP8 ⊢
   have HBB : Hid (Blk w4 b 31 valZ) := H_ (HBF.out _ HK4.out)
   clear hp8 HB3
   refine wp_region_held_drew (S := fun W => Blk W p8 31 valZ ∧ Keeps (fun i => i = b) w4 W) (by kernel_rfl) ⟨HB4.out, (Keeps.refl _ w4).drew⟩ (fun h_ => ?_)
   refine tI 0 71 h_ ?_ (hy := (yieldsIf_load_mid (by rfl) _ _ rfl _ _ rfl valZ _ (fun w' h => blk_range h.1) Tryz.underlying31 rfl (by kernel_rfl)))
   try simp only [pu]
   refine tI 1 72 h_ ?_
   try simp only [pu]
   refine tI 2 73 h_ ?_
   try simp only [pu]
   refine tI 3 2 h_ ?_
   try simp only [pu]
   refine rH 4 none fun K hK => ?_
   refine step_store_whole rfl 31 (.tmp 3) (.tmp 71) rfl valZ rfl rfl HBB.out rfl (by kernel_rfl) HV1.out ?_
   refine gen_KA (fun V => Keeps (fun i => i = b) w4 V ∧ Blk V b 31 valZ) ⟨(Keeps.refl (fun i => i = b) w4).drew.setRow (.inl rfl) _, HBB.out.setRow valZ⟩ ?_
   rintro w5 ⟨k5, b5⟩
   refine hK.out _ _ ⟨k5.blk HB4.out HP8.out.1, k5⟩ (fun h_ => ?_)
   clear hK K
   try simp only [pu]
   refine tI 5 4 h_ ?_
   try simp only [pu]
   refine tI 6 5 h_ ?_
   try simp only [pu]
   refine wpAnyH_done (by kernel_rfl) ?_ _
   have HK5 := H_ k5
   have HB5 := H_ b5
   clear k5 b5 h_
   go_wp2
   refine bodyPost_ret (results_tct rfl _ _ rfl HB5.out Tryz.underlying31 rfl (by kernel_rfl)) rfl ⟨?_, ?_⟩
   ·exact (HKW1.out.trans HK4.out (fun _ _ h => h)).trans HK5.out (fun i hi e => by have := HP8.out.2; omega)
   rw [HBFL.out]
   rfl
  | inr j =>
   have hfew := buildF_few hbf
   have HR : Hid (Calls Tryz.prog 26 #[.slice L i cl] wr fun e w' => ∃ VV, e = .returned (.tuple #[.agg VV.toArray, .int .i64 0, .int .i64 0]) ∧ Hid (RAt (fun i => wr.heap.size ≤ i) w' VV j) ∧ Hid (Keeps (fun _ => False) wr w')) := H_ (by
    have h1 := HRB.out
    rw [hbf] at h1
    refine h1.mono ?_
    rintro e w' ⟨hk, v, he, hr⟩
    exact ⟨v, he, H_ hr, H_ hk⟩)
   have HN2 : Hid (∀ W, Keeps (fun _ => False) w W → Calls Tryz.prog 17 #[.slice A i c] W fun e w' => ∃ q v, e = .returned (.tuple #[.pointer (some ⟨q, 0, none⟩), .nilIface]) ∧ Hid (TreeAt (fun i => W.heap.size ≤ i) w' q v j) ∧ Hid (Keeps (fun _ => False) W w')) := H_ fun W hW => by
    have h1 := HNB.out W hW
    rw [hbf] at h1
    refine h1.mono ?_
    rintro e w' ⟨hk, q, v, he, ht, _⟩
    exact ⟨q, v, he, H_ ht, H_ hk⟩
   have HBFL := H_ hbf
   have hi6 : decide ((65536 : Int) < (i : Int)) = false := decide_eq_false (by have := HS.out.len; omega)
   clear HRB HNB hbf hfew
   go_upto_region 10 with (first
    | (go_at_call 26; refine HR.out.mono ?_; rintro e w2 ⟨VV, rfl, HV2, HK2⟩)
    | ((with_reducible show wpList _ _ _ (⟨none, Op.store 31 (.tmp 8) _, _, _, _, _⟩ :: _) _ _); refine wpList_store_whole rfl 31 _ _ rfl VV rfl rfl (Blk.new _ 31 valZ) HV2.out.len.symm (by rw [HV2.out.len]; kernel_rfl) HV2.out.one ?_; refine gen_world (fun W => Keeps (fun _ => False) w2 W ∧ Blk W w2.heap.size 31 VV) ⟨((Keeps.refl _ w2).alloc _).setRow (.inr (Nat.le_refl _)) _, (Blk.new w2 31 valZ).setRow VV⟩ ?_; rintro w3 ⟨hk3, hb3⟩; have HK3 := H_ (HK2.out.trans hk3 (fun _ _ h => h)); have HV3 := H_ (HV2.out.stay hk3); have HB3 := H_ hb3; clear hk3 hb3)
    | (go_at_call 17; refine (HN2.out _ (HKW1.out.trans HK3.out (fun _ _ h => h))).mono ?_; rintro e w4 ⟨q, tv, rfl, HT4, HK4'⟩; have HK4 := H_ (HK3.out.trans HK4'.out (fun _ _ h => h)); have HB4 := H_ (HK4'.out.blk HB3.out (fun h => h)); have HV4 := H_ (HV3.out.stay HK4'.out)))
   have HP8 : Hid (w2.heap.size ≠ b ∧ b = w.heap.size ∧ b < wr.heap.size ∧ wr.heap.size ≤ w3.heap.size ∧ w.heap.size ≤ wr.heap.size) := H_ ⟨by have h1 := HB1.out.2.lt; have h2 := HO.out.own.2.1.size; have h3 := HK2.out.size; omega, HBW.out, by have h1 := HB1.out.2.lt; have h2 := HO.out.own.2.1.size; omega, HK3.out.size, HKR.out.size⟩
   obtain ⟨p8, hp8⟩ : ∃ p8, p8 = w2.heap.size := ⟨_, rfl⟩
   rw [← hp8] at HB4 HP8 ⊢
   have HBB : Hid (Blk w4 b 31 valZ) := H_ (HBF.out _ HK4.out)
   have HSIV : Hid ((Tryz.prog.info? 31).map (·.size) = some VV.length) := H_ (by rw [HV2.out.len]; kernel_rfl)
   clear hp8 HB3
   refine wp_region_held_drew (S := fun W => Blk W p8 31 VV ∧ Keeps (fun i => i = b) w4 W) (by kernel_rfl) ⟨HB4.out, (Keeps.refl _ w4).drew⟩ (fun h_ => ?_)
   refine tI 0 74 h_ ?_
   try simp only [pu]
   refine tI 1 75 h_ ?_ (hy := (yieldsIf_load_mid (by rfl) _ _ rfl _ _ rfl VV _ (fun w' h => blk_range h.1) Tryz.underlying31 rfl HSIV.out))
   try simp only [pu]
   refine tI 2 76 h_ ?_
   try simp only [pu]
   refine tI 3 77 h_ ?_
   try simp only [pu]
   refine tI 4 78 h_ ?_
   try simp only [pu]
   refine tI 5 79 h_ ?_
   try simp only [pu]
   refine tI 6 80 h_ ?_
   try simp only [pu]
   refine tI 7 81 h_ ?_
   try simp only [pu]
   refine tI 8 2 h_ ?_
   try simp only [pu]
   refine rH 9 none fun K hK => ?_
   refine step_store_whole rfl 31 (.tmp 3) (.tmp 75) rfl VV rfl rfl HBB.out HV2.out.len.symm HSIV.out HV2.out.one ?_
   refine gen_KA (fun V => Keeps (fun i => i = b) w4 V ∧ Blk V b 31 VV) ⟨(Keeps.refl (fun i => i = b) w4).drew.setRow (.inl rfl) _, HBB.out.setRow VV⟩ ?_
   rintro w5 ⟨k5, b5⟩
   refine hK.out _ _ ⟨k5.blk HB4.out HP8.out.1, k5⟩ (fun h_ => ?_)
   clear hK K
   try simp only [pu]
   refine tI 10 4 h_ ?_
   try simp only [pu]
   refine tI 11 5 h_ ?_
   try simp only [pu]
   refine wpAnyH_done (by kernel_rfl) ?_ _
   have HK5 := H_ k5
   have HB5 := H_ b5
   clear k5 b5 h_
   go_wp2
   refine bodyPost_ret (results_tct rfl _ _ rfl HB5.out Tryz.underlying31 rfl HSIV.out) rfl ⟨?_, ?_⟩
   ·exact (HKW1.out.trans HK4.out (fun _ _ h => h)).trans HK5.out (fun i hi e => by have := HP8.out.2.1; omega)
   rw [HBFL.out]
   refine ⟨q, tv, VV, rfl, ?_, ?_⟩
   ·exact (HT4.out.keep HK5.out (fun i hi e => by have := HP8.out.2; omega)).mono fun i hi _ => by have := HP8.out.2; omega
   exact (HV4.out.keep HK5.out (fun i hi e => by have := HP8.out.2; omega)).mono fun i hi _ => by have := HP8.out.2; omega
end Go.Proofs.YtdmcioghdindfaaGreatDoor
