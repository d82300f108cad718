/- Texts. -/
import Derived.Test.YtdmcioghdindfaaGreatDoorL12
set_option linter.unusedSimpArgs false
set_option maxRecDepth 100000
set_option maxHeartbeats 4000000
namespace Go.Json
open Go.Utf
def cmpS (a b : ByteArray) : Int := lexR (unitsR (sb a)) (unitsR (sb b))
theorem cmpS_le {a b : ByteArray} (h : cmpS a b ≤ 0) : ¬ ltS b a := fun h2 => by
 have : cmpS b a < 0 := h2
 have h3 : cmpS b a = - cmpS a b := lex_swap _ _
 omega
theorem cmpS_gt {a b : ByteArray} (h : ¬ cmpS a b ≤ 0) : ltS b a := by
 have h3 : cmpS b a = - cmpS a b := lex_swap _ _
 show cmpS b a < 0
 omega
def NotF (l : List ByteArray) : Prop := l.Pairwise fun a b => ¬ ltS b a
structure Mix (all done ra rb : List ByteArray) : Prop where
 perm : (done ++ (ra ++ rb)).Perm all
 d : NotF done
 a : NotF ra
 b : NotF rb
 lo : ∀ x ∈ done, ∀ y ∈ ra ++ rb, ¬ ltS y x
theorem notF_trans {a b c : ByteArray} (h : ¬ ltS b a) (h2 : ¬ ltS c b) (ha : rightS a = true) (hb : rightS b = true) : ¬ ltS c a := fun h3 => by
 rcases ltS_tri ha hb with h4 | h4 | h4
 ·exact h2 (ltS_trans h3 h4)
 ·subst h4; exact h2 h3
 exact h h4
theorem Mix.start {ra rb : List ByteArray} (ha : NotF ra) (hb : NotF rb) : Mix (ra ++ rb) [] ra rb := ⟨.refl _, .nil, ha, hb, fun x h => by simp at h⟩
theorem notF_snoc {l : List ByteArray} {x : ByteArray} (h : NotF l) (hx : ∀ y ∈ l, ¬ ltS x y) : NotF (l ++ [x]) := by
 refine List.pairwise_append.2 ⟨h, List.pairwise_singleton _ _, fun a ha b hb => ?_⟩
 rw [List.mem_singleton.1 hb]
 exact hx a ha
theorem Mix.left {all done ra rb : List ByteArray} {x : ByteArray} (h : Mix all done (x :: ra) rb) (hall : ∀ s ∈ all, rightS s = true) (hx : ∀ y ∈ rb.head?, ¬ ltS y x) : Mix all (done ++ [x]) ra rb := by
 have hm : ∀ s, s ∈ done ++ (x :: ra ++ rb) → rightS s = true := fun s hs => hall s (h.perm.mem_iff.1 hs)
 have hxr : rightS x = true := hm x (by simp)
 have ha := List.pairwise_cons.1 h.a
 have hyb : ∀ y ∈ rb, ¬ ltS y x := fun y hy => by
  match rb, h.b, hx, hy with
  | z :: rb', hb, hx, hy =>
   have hz := hx z rfl
   rcases List.mem_cons.1 hy with rfl | hy'
   ·exact hz
   exact notF_trans hz ((List.pairwise_cons.1 hb).1 y hy') hxr (hm z (by simp))
 refine ⟨?_, notF_snoc h.d fun y hy => h.lo y hy x (by simp), ha.2, h.b, fun p hp y hy => ?_⟩
 ·have : done ++ [x] ++ (ra ++ rb) = done ++ (x :: ra ++ rb) := by simp
  rw [this]; exact h.perm
 rcases List.mem_append.1 hp with hp | hp
 ·exact h.lo p hp y (by rcases List.mem_append.1 hy with h2 | h2 <;> simp [h2])
 rw [List.mem_singleton.1 hp]
 rcases List.mem_append.1 hy with hy | hy
 ·exact ha.1 y hy
 exact hyb y hy
theorem Mix.swap {all done ra rb : List ByteArray} (h : Mix all done ra rb) : Mix all done rb ra :=
 ⟨((List.Perm.refl done).append List.perm_append_comm).trans h.perm, h.d, h.b, h.a, fun x hx y hy => h.lo x hx y (by rcases List.mem_append.1 hy with h2 | h2 <;> simp [h2])⟩
theorem Mix.right {all done ra rb : List ByteArray} {x : ByteArray} (h : Mix all done ra (x :: rb)) (hall : ∀ s ∈ all, rightS s = true) (hx : ∀ y ∈ ra.head?, ¬ ltS y x) : Mix all (done ++ [x]) ra rb := (h.swap.left hall hx).swap
end Go.Json
namespace Go.Proofs.YtdmcioghdindfaaGreatDoor
open Go Go.RowKit Go.Aff Go.Json Go.Utf
theorem MineS.cap {s : Nat} {w wr : World} {e : TypeId} {A : Option Addr} {m c : Nat} {xs : List Value} (h : MineS s w wr e A m c xs) : m ≤ c := by
 rcases h.1.2 with ⟨hv, hn0⟩ | ⟨g, cap, cur, hv, _, _, hnc, _⟩
 ·injection hv with e1 e2 e3
  omega
 injection hv with e1 e2 e3
 omega
def SortedPost (w : World) (ks : List ByteArray) (e : Ending) (w' : World) : Prop :=
 ∃ A c ks', e = .returned (.slice A ks.length c) ∧ ks.length ≤ c ∧ MineS 1 w w' 9 A ks.length c (ks'.map .string) ∧ ks'.Perm ks ∧ NotF ks'
theorem rsorted_few (w : World) (B : Option Addr) (n d : Nat) (ks : List ByteArray) (hn : ks.length = n) (hr : Rd w B n (ks.map .string)) (h2 : n < 2) :
  Calls Tryz.prog 117 #[.slice B n d] w (SortedPost w ks) := by
 have HR := H_ hr
 have HN := H_ hn
 have HF : Hid (NotF ks) := H_ (by
  match ks, hn with
  | [], _ => exact .nil
  | [x], _ => exact List.pairwise_singleton _ _
  | _ :: _ :: _, hn => simp at hn; omega)
 have hlt : decide ((n : Int) < 2) = true := decide_eq_true (by omega)
 clear hr hn
 go_enter Tryz.func117, Tryz.ntmps117
 go_wp2_with (at_builtin; refine wpList_append_mine w _ rfl (.tmp 9) (.tmp 10) 29 rfl 9 (.string .empty) 1 16 Tryz.underlying29 (by kernel_rfl) rfl (by decide) rfl (Mine.built w w 9 0 [] (Keeps.refl _ w) rfl (by decide)) B n d (ks.map .string) rfl (RdS.of_rd (HR.out.keep ((Keeps.refl (fun _ => False) w).alloc _) (fun _ _ _ h => h))) (by intro u hu; obtain ⟨s, _, rfl⟩ := List.mem_map.1 hu; rfl) (by unfold maxLen; omega) (by omega) ?_; intro A4 c4 w4 ht4; have HT4 := H_ ht4; clear ht4)
 go_ret
 refine ⟨A4, c4, ks, ?_, ?_, ?_, .refl _, HF.out⟩
 ·rw [HN.out]
  have e0 : 0 + n = n := Nat.zero_add n
  first | rfl | (simp only [Nat.zero_add]; rfl)
 ·have := MineS.cap HT4.out
  rw [HN.out]; omega
 have := HT4.out
 rw [List.nil_append, Nat.zero_add] at this
 rw [HN.out]
 exact this
theorem rsorted_many (w : World) (B : Option Addr) (n d : Nat) (ks : List ByteArray) (hn : ks.length = n) (hd : n ≤ d) (hr : Rd w B n (ks.map .string)) (h2 : 2 ≤ n) (hm : n ≤ 1099511627776) (hs : ∀ s ∈ ks, s.size ≤ 1099511627776) (hri : ∀ s ∈ ks, rightS s = true)
  (ih : ∀ (W : World) (B : Option Addr) (d : Nat) (ls : List ByteArray), ls.length < n → ls.length ≤ d → Rd W B ls.length (ls.map .string) → (∀ s ∈ ls, s ∈ ks) → Calls Tryz.prog 117 #[.slice B ls.length d] W (SortedPost W ls)) :
  Calls Tryz.prog 117 #[.slice B n d] w (SortedPost w ks) := by
 obtain ⟨k, hk⟩ : ∃ k : Nat, k = n / 2 := ⟨_, rfl⟩
 have hk1 : 1 ≤ k ∧ k < n := by omega
 have hdv : (n : Int).tdiv 2 = (k : Int) := by rw [Int.tdiv_eq_ediv_of_nonneg (by omega)]; omega
 have hwk : IntKind.i64.wrap (k : Int) = (k : Int) := by
  simp [IntKind.wrap, IntKind.bits, IntKind.signed]
  omega
 have hk0 : (0 : Int) ≤ (k : Int) := by omega
 have hkd : (k : Int) ≤ (d : Int) := by omega
 have hkn : (k : Int) ≤ (n : Int) := by omega
 have hsl1 : ∀ W, (Instr.sliceAt 29 (.slice B n d) none (some (.int .i64 (k : Int))) none).run Tryz.prog W = .ok (.slice (cutA B d 0) k d) W := fun W => cut_h Tryz.underlying29 (by kernel_rfl) B n d k _ rfl (by omega) W
 have hsl2 : ∀ W, (Instr.sliceAt 29 (.slice B n d) (some (.int .i64 (k : Int))) none none).run Tryz.prog W = .ok (.slice (cutA B d k) (n - k) (d - k)) W := fun W => cut_l Tryz.underlying29 (by kernel_rfl) B n d k _ rfl (by omega) W
 have hca : (ks.take k).length = k := by rw [List.length_take]; omega
 have hcb : (ks.drop k).length = n - k := by rw [List.length_drop]; omega
 have HC1 : Hid (∀ W, Keeps (fun _ => False) w W → Calls Tryz.prog 117 #[.slice (cutA B d 0) k d] W (SortedPost W (ks.take k))) := H_ fun W hW => by
  have hr1 : Rd W (cutA B d 0) k ((ks.take k).map .string) := by
   have := (hr.keep hW (fun _ _ _ h => h)).cutLH (l := 0) (k := k) (c := d) (by omega) (by omega) hd
   rw [Nat.sub_zero, List.drop_zero, ← List.map_take] at this
   exact this
  have := ih W (cutA B d 0) d (ks.take k) (by omega) (by omega) (by rw [hca]; exact hr1) fun s h => List.mem_of_mem_take h
  rwa [hca] at this
 have HC2 : Hid (∀ W, Keeps (fun _ => False) w W → Calls Tryz.prog 117 #[.slice (cutA B d k) (n - k) (d - k)] W (SortedPost W (ks.drop k))) := H_ fun W hW => by
  have hr1 : Rd W (cutA B d k) (n - k) ((ks.drop k).map .string) := by
   have := (hr.keep hW (fun _ _ _ h => h)).cutA (l := k) (c := d) (by omega) hd
   rw [← List.map_drop] at this
   exact this
  have := ih W (cutA B d k) (d - k) (ks.drop k) (by omega) (by omega) (by rw [hcb]; exact hr1) fun s h => List.mem_of_mem_drop h
  rwa [hcb] at this
 unfold SortedPost at HC1 HC2
 rw [hca] at HC1
 rw [hcb] at HC2
 have hlt : decide ((n : Int) < 2) = false := decide_eq_false (by omega)
 have HFA := H_ (And.intro hn (And.intro hs hri))
 have HKD := H_ hk
 clear hr ih hn hs hri hca hcb hk
 go_enter Tryz.func117, Tryz.ntmps117
 go_upto_region 3 with fail
 refine wp_region_held_drew (S := fun W => Keeps (fun _ => False) w W) (by kernel_rfl) ((Keeps.refl _ w).drew) (fun h_ => ?_)
 refine tI 0 12 h_ ?_
 try simp only [pu]
 refine tI 1 13 h_ ?_
 try simp only [pu]
 refine tI 2 14 h_ ?_
 try simp only [pu]
 refine tI 3 15 h_ ?_
 try simp only [pu]
 refine tI 4 16 h_ ?_
 try simp only [pu]
 refine tI 6 18 h_ ?_
 try simp only [pu]
 refine tI 7 19 h_ ?_
 try simp only [pu]
 refine tI 8 20 h_ ?_
 try simp only [pu]
 refine tI 9 21 h_ ?_
 try simp only [pu]
 refine tI 10 22 h_ ?_
 try simp only [pu]
 refine rH 5 (some 17) fun K hK => ?_
 go_simp
 refine (HC1.out _ h_).mono ?_
 rintro e vv ⟨A1, c1, ls1, rfl, hc1, hm1, hp1, hf1⟩
 have HM1 := H_ hm1; have HP1 := H_ (And.intro hc1 (And.intro hp1 hf1)); have hqq := h_.trans hm1.2.1 (fun _ _ h => h); clear hm1 hc1 hp1 hf1
 refine hK.out _ _ hqq (fun h_ => ?_)
 clear hK K
 try simp only [pu]
 refine rH 11 (some 23) fun K hK => ?_
 go_simp
 refine (HC2.out _ h_).mono ?_
 rintro e vv2 ⟨A2, c2, ls2, rfl, hc2, hm2, hp2, hf2⟩
 have HM2 := H_ hm2; have HP2 := H_ (And.intro hc2 (And.intro hp2 hf2)); have hqq2 := h_.trans hm2.2.1 (fun _ _ h => h); clear hm2 hc2 hp2 hf2
 refine hK.out _ _ hqq2 (fun h_ => ?_)
 clear hK K
 try simp only [pu]
 refine tI 12 3 h_ ?_
 try simp only [pu]
 refine tI 13 4 h_ ?_
 try simp only [pu]
 refine wpAnyH_done (by kernel_rfl) ?_ _
 have HK2 := H_ h_
 clear h_ HC1 HC2 hsl1 hsl2 hdv hwk hk0 hkd hkn hlt
 go_wp2
 have HALL : Hid ((ls1 ++ ls2).Perm ks) := H_ (by
  have := HP1.out.2.1.append HP2.out.2.1
  rwa [List.take_append_drop] at this)
 have HRI : Hid (∀ s ∈ ls1 ++ ls2, rightS s = true ∧ s.size ≤ 1099511627776) := H_ fun s h => ⟨HFA.out.2.2 s (HALL.out.mem_iff.1 h), HFA.out.2.1 s (HALL.out.mem_iff.1 h)⟩
 have HR1 : Hid (Rd vv2 A1 k (ls1.map .string)) := H_ ((MineS.rd HM1.out).keep HM2.out.2.1 (fun _ _ _ h => h))
 have HR2 : Hid (Rd vv2 A2 (n - k) (ls2.map .string)) := H_ (MineS.rd HM2.out)
 have HL : Hid (ls1.length = k ∧ ls2.length = n - k) := H_ ⟨by have := HP1.out.2.1.length_eq; rw [List.length_take, HFA.out.1] at this; omega, by have := HP2.out.2.1.length_eq; rw [List.length_drop, HFA.out.1] at this; omega⟩
 have HCC : Hid (k ≤ c1 ∧ n - k ≤ c2) := H_ ⟨HP1.out.1, HP2.out.1⟩
 have HMX : Hid (Mix (ls1 ++ ls2) [] ls1 ls2) := H_ (Mix.start HP1.out.2.2 HP2.out.2.2)
 clear HM1 HM2 HP1 HP2 h_ hqq hqq2
 go_loopg [3, 4, 5] n (fun gk ta tb tc wx => ∃ (na nb m : Nat) (A : Option Addr) (ca : Nat) (B : Option Addr) (cb : Nat) (O : Option Addr) (co : Nat) (ra rb done : List ByteArray), na + nb ≤ n ∧ m ≤ n ∧ ta = .slice A na ca ∧ tb = .slice B nb cb ∧ tc = .slice O m co ∧ gk = na + nb ∧
  Hid (Mix (ls1 ++ ls2) done ra rb) ∧ Hid (ra.length = na ∧ rb.length = nb ∧ done.length = m ∧ na ≤ ca ∧ nb ≤ cb ∧ m + na + nb = n) ∧ Hid (Rd vv2 A na (ra.map .string) ∧ Rd vv2 B nb (rb.map .string)) ∧ Hid (MineS 1 vv2 wx 9 O m co (done.map .string)))
 case atStart => exact ⟨k, n - k, 0, A1, c1, A2, c2, none, 0, ls1, ls2, [], by omega, by omega, rfl, by first | rfl | (simp; omega), rfl, by omega, HMX, H_ ⟨HL.out.1, HL.out.2, rfl, HCC.out.1, HCC.out.2, by omega⟩, H_ ⟨HR1.out, HR2.out⟩, H_ (MineS.nil 1 vv2 _)⟩
 case round =>
  obtain ⟨na, nb, m, A, ca, B9, cb, O, co, ra, rb, done, hab, hmn, rfl, rfl, rfl, hgk, HX, HLL, HRR, HO⟩ := hrel
  have HGK := H_ hgk
  clear hgk
  have HDN : Hid (∀ W, Keeps (fun _ => False) vv2 W → (0 < na → ∃ g o x ra', A = some ⟨g, o, none⟩ ∧ ra = x :: ra' ∧ W.cell? ⟨g, o, none⟩ = some (.string x)) ∧ (0 < nb → ∃ g o y rb', B9 = some ⟨g, o, none⟩ ∧ rb = y :: rb' ∧ W.cell? ⟨g, o, none⟩ = some (.string y))) := H_ fun W hW => by
   refine ⟨fun h0 => ?_, fun h0 => ?_⟩
   ·obtain ⟨g, o, e, hc⟩ := (HRR.out.1.keep hW (fun _ _ _ h => h)).2 h0
    match ra, HLL.out.1, hc 0 h0 with
    | x :: ra', _, hc => exact ⟨g, o, x, ra', e, rfl, hc⟩
    | [], hl, _ => simp at hl; omega
   obtain ⟨g, o, e, hc⟩ := (HRR.out.2.keep hW (fun _ _ _ h => h)).2 h0
   match rb, HLL.out.2.1, hc 0 h0 with
   | y :: rb', _, hc => exact ⟨g, o, y, rb', e, rfl, hc⟩
   | [], hl, _ => simp at hl; omega
  have hmm0 : 0 < na + nb → m + 1 ≤ n := fun h => by have := HLL.out; omega
  have HMM := H_ hmm0
  clear hmm0
  by_cases ha0 : na = 0
  ·by_cases hb0 : nb = 0
   ·have d1 : decide ((0 : Int) < (na : Int)) = false := decide_eq_false (by omega)
    have d2 : decide ((0 : Int) < (nb : Int)) = false := decide_eq_false (by omega)
    have hra : ra = [] := List.length_eq_zero_iff.1 (by rw [HLL.out.1]; exact ha0)
    have hrb : rb = [] := List.length_eq_zero_iff.1 (by rw [HLL.out.2.1]; exact hb0)
    have HF : Hid (done.Perm ks ∧ NotF done ∧ m = n) := H_ (by
     have h1 := HX.out.perm
     rw [hra, hrb, List.append_nil, List.append_nil] at h1
     exact ⟨h1.trans HALL.out, HX.out.d, by have := HLL.out.2.2.2.2.2; omega⟩)
    clear hra hrb
    go_wp2
    go_ret
    refine ⟨O, co, done, ?_, ?_, ?_, HF.out.1, HF.out.2.1⟩
    ·rw [HFA.out.1, ← HF.out.2.2]; rfl
    ·have := MineS.cap HO.out
     have h3 := HF.out.2.2
     rw [HFA.out.1]; omega
    rw [HFA.out.1, ← HF.out.2.2]
    exact ⟨HO.out.1, HK2.out.trans HO.out.2.1 (fun _ _ h => h), fun g hg => by have h1 := HO.out.2.2 g hg; have h2 := HK2.out.size; omega⟩
   have d1 : decide ((0 : Int) < (na : Int)) = false := decide_eq_false (by omega)
   have d2 : decide ((0 : Int) < (nb : Int)) = true := decide_eq_true (by omega)
   have d3 : ((nb : Int) == 0) = false := by simp; omega
   obtain ⟨g2, o2, y, rb', hB, hrb, cy⟩ := (HDN.out wr HO.out.2.1).2 (by omega)
   subst hB
   have HRB := H_ hrb
   have hslB : ∀ W, (Instr.sliceAt 29 (.slice (some ⟨g2, o2, none⟩) nb cb) (some (.int .i64 1)) none none).run Tryz.prog W = .ok (.slice (cutA (some ⟨g2, o2, none⟩) cb 1) (nb - 1) (cb - 1)) W := fun W => cut_l Tryz.underlying29 (by kernel_rfl) _ nb cb 1 1 rfl (by omega) W
   clear hrb
   have HNX : Hid (Mix (ls1 ++ ls2) (done ++ [y]) ra rb') := H_ (by
    have h1 := HX.out
    rw [HRB.out] at h1
    refine h1.right (fun s h => (HRI.out s h).1) fun z hz => ?_
    have hra : ra = [] := List.length_eq_zero_iff.1 (by rw [HLL.out.1]; exact ha0)
    rw [hra] at hz
    cases hz)
   have hmm := HMM.out (by omega)
   have hpb : 0 < nb := by omega
   have HA0 := H_ ha0
   clear ha0 hb0
   go_upto_region 6 with fail
   refine wp_region_held_drew (S := Keeps (fun _ => False) wr) (by kernel_rfl) (Keeps.refl (fun _ => False) _).drew (fun h_ => ?_)
   refine tI 0 32 h_ ?_
   try simp only [pu]
   refine tI 1 33 h_ ?_
   try simp only [pu]
   refine tI 2 34 h_ ?_
   try simp only [pu]
   refine tI 3 35 h_ ?_
   try simp only [pu]
   refine tI 4 36 h_ ?_
   try simp only [pu]
   refine tI 5 37 h_ ?_
   try simp only [pu]
   refine tI 6 38 h_ ?_
   try simp only [pu]
   refine tI 7 39 h_ ?_
   try simp only [pu]
   refine tH (i := 8) (oi := ⟨some 40, _, _, _, _, _⟩) (v := undef) rfl (Or.inr ⟨by rfl, rfl⟩) h_ ?_
   try simp only [pu]
   refine tH (i := 9) (oi := ⟨some 41, _, _, _, _, _⟩) (v := undef) rfl (Or.inr ⟨by rfl, rfl⟩) h_ ?_
   try simp only [pu]
   refine tH (i := 10) (oi := ⟨some 42, _, _, _, _, _⟩) (v := undef) rfl (Or.inr ⟨by rfl, rfl⟩) h_ ?_
   try simp only [pu]
   refine tH (i := 11) (oi := ⟨some 43, _, _, _, _, _⟩) (v := undef) rfl (Or.inr ⟨by rfl, rfl⟩) h_ ?_
   try simp only [pu]
   refine tH (i := 12) (oi := ⟨some 44, _, _, _, _, _⟩) (v := undef) rfl (Or.inr ⟨by rfl, rfl⟩) h_ ?_
   try simp only [pu]
   refine tH (i := 13) (oi := ⟨some 45, _, _, _, _, _⟩) (v := undef) rfl (Or.inr ⟨by rfl, rfl⟩) h_ ?_
   try simp only [pu]
   refine tH (i := 14) (oi := ⟨some 46, _, _, _, _, _⟩) (v := undef) rfl (Or.inr ⟨by rfl, rfl⟩) h_ ?_
   try simp only [pu]
   refine tH (i := 15) (oi := ⟨some 47, _, _, _, _, _⟩) (v := undef) rfl (Or.inr ⟨by rfl, rfl⟩) h_ ?_
   try simp only [pu]
   refine tI 16 48 h_ ?_
   try simp only [pu]
   refine tI 17 49 h_ ?_
   try simp only [pu]
   refine wpAnyH_done (by kernel_rfl) ?_ _
   have HO3 := H_ (MineS.keep HO.out h_)
   have cy2 := cell_keep h_ cy
   clear h_
   go_wp2_with (at_builtin; refine wpList_append_mine vv2 _ rfl (.tmp 58) (.tmp 62) 29 rfl 9 (.string .empty) 1 16 Tryz.underlying29 (by kernel_rfl) rfl (by decide) rfl (HO3.out.alloc _) _ 1 1 [.string y] rfl (RdS.blk (Blk.new _ 9 [.string y]) rfl) (by intro u hu; rw [List.mem_singleton.1 hu]; rfl) (by unfold maxLen; omega) (by omega) ?_; intro A4 c4 w4 ht4; have HT4 := H_ ht4; clear ht4)
   go_roundg (na + (nb - 1))
   case measure => rw [HGK.out]; omega
   case rel =>
    refine ⟨na, nb - 1, m + 1, A, ca, cutA (some ⟨g2, o2, none⟩) cb 1, cb - 1, A4, c4, ra, rb', done ++ [y], by omega, hmm, by first | rfl | rw [HA0.out], rfl, rfl, rfl, HNX, ?_, ?_, ?_⟩
    ·have := HLL.out
     rw [HRB.out, List.length_cons] at this
     exact H_ ⟨by omega, by omega, by rw [List.length_append]; simp; omega, by omega, by omega, by omega⟩
    ·have := (HRR.out.2).cutA (l := 1) (c := cb) (by omega) (by have := HLL.out; omega)
     rw [HRB.out] at this
     exact H_ ⟨HRR.out.1, this⟩
    rw [List.map_append]
    exact HT4
  obtain ⟨g1, o1, x, ra', hA, hra, cx⟩ := (HDN.out wr HO.out.2.1).1 (by omega)
  subst hA
  have HRA := H_ hra
  have d1 : decide ((0 : Int) < (na : Int)) = true := decide_eq_true (by omega)
  have hslA : ∀ W, (Instr.sliceAt 29 (.slice (some ⟨g1, o1, none⟩) na ca) (some (.int .i64 1)) none none).run Tryz.prog W = .ok (.slice (cutA (some ⟨g1, o1, none⟩) ca 1) (na - 1) (ca - 1)) W := fun W => cut_l Tryz.underlying29 (by kernel_rfl) _ na ca 1 1 rfl (by omega) W
  clear hra
  by_cases hb0 : nb = 0
  ·have d2 : ((nb : Int) == 0) = true := by simp; omega
   have HNX : Hid (Mix (ls1 ++ ls2) (done ++ [x]) ra' rb) := H_ (by
    have h1 := HX.out
    rw [HRA.out] at h1
    refine h1.left (fun s h => (HRI.out s h).1) fun y hy => ?_
    have hrb : rb = [] := List.length_eq_zero_iff.1 (by rw [HLL.out.2.1]; exact hb0)
    rw [hrb] at hy
    cases hy)
   have hmm := HMM.out (by omega)
   have hpa : 0 < na := by omega
   have HB0 := H_ hb0
   clear ha0 hb0
   go_upto_region 6 with fail
   refine wp_region_held_drew (S := Keeps (fun _ => False) wr) (by kernel_rfl) (Keeps.refl (fun _ => False) _).drew (fun h_ => ?_)
   refine tI 0 32 h_ ?_
   try simp only [pu]
   refine tI 1 33 h_ ?_
   try simp only [pu]
   refine tI 2 34 h_ ?_
   try simp only [pu]
   refine tI 3 35 h_ ?_
   try simp only [pu]
   refine tH (i := 4) (oi := ⟨some 36, _, _, _, _, _⟩) (v := undef) rfl (Or.inr ⟨by rfl, rfl⟩) h_ ?_
   try simp only [pu]
   refine tH (i := 5) (oi := ⟨some 37, _, _, _, _, _⟩) (v := undef) rfl (Or.inr ⟨by rfl, rfl⟩) h_ ?_
   try simp only [pu]
   refine tH (i := 6) (oi := ⟨some 38, _, _, _, _, _⟩) (v := undef) rfl (Or.inr ⟨by rfl, rfl⟩) h_ ?_
   try simp only [pu]
   refine tH (i := 7) (oi := ⟨some 39, _, _, _, _, _⟩) (v := undef) rfl (Or.inr ⟨by rfl, rfl⟩) h_ ?_
   try simp only [pu]
   refine tH (i := 8) (oi := ⟨some 40, _, _, _, _, _⟩) (v := undef) rfl (Or.inr ⟨by rfl, rfl⟩) h_ ?_
   try simp only [pu]
   refine tH (i := 9) (oi := ⟨some 41, _, _, _, _, _⟩) (v := undef) rfl (Or.inr ⟨by rfl, rfl⟩) h_ ?_
   try simp only [pu]
   refine tH (i := 10) (oi := ⟨some 42, _, _, _, _, _⟩) (v := undef) rfl (Or.inr ⟨by rfl, rfl⟩) h_ ?_
   try simp only [pu]
   refine tH (i := 11) (oi := ⟨some 43, _, _, _, _, _⟩) (v := undef) rfl (Or.inr ⟨by rfl, rfl⟩) h_ ?_
   try simp only [pu]
   refine tH (i := 12) (oi := ⟨some 44, _, _, _, _, _⟩) (v := undef) rfl (Or.inr ⟨by rfl, rfl⟩) h_ ?_
   try simp only [pu]
   refine tH (i := 13) (oi := ⟨some 45, _, _, _, _, _⟩) (v := undef) rfl (Or.inr ⟨by rfl, rfl⟩) h_ ?_
   try simp only [pu]
   refine tH (i := 14) (oi := ⟨some 46, _, _, _, _, _⟩) (v := undef) rfl (Or.inr ⟨by rfl, rfl⟩) h_ ?_
   try simp only [pu]
   refine tH (i := 15) (oi := ⟨some 47, _, _, _, _, _⟩) (v := undef) rfl (Or.inr ⟨by rfl, rfl⟩) h_ ?_
   try simp only [pu]
   refine tH (i := 16) (oi := ⟨some 48, _, _, _, _, _⟩) (v := undef) rfl (Or.inr ⟨by rfl, rfl⟩) h_ ?_
   try simp only [pu]
   refine tI 17 49 h_ ?_
   try simp only [pu]
   refine wpAnyH_done (by kernel_rfl) ?_ _
   have HO3 := H_ (MineS.keep HO.out h_)
   have cx2 := cell_keep h_ cx
   clear h_
   go_wp2_with (at_builtin; refine wpList_append_mine vv2 _ rfl (.tmp 50) (.tmp 54) 29 rfl 9 (.string .empty) 1 16 Tryz.underlying29 (by kernel_rfl) rfl (by decide) rfl (HO3.out.alloc _) _ 1 1 [.string x] rfl (RdS.blk (Blk.new _ 9 [.string x]) rfl) (by intro u hu; rw [List.mem_singleton.1 hu]; rfl) (by unfold maxLen; omega) (by omega) ?_; intro A4 c4 w4 ht4; have HT4 := H_ ht4; clear ht4)
   go_roundg (na - 1 + nb)
   case measure => rw [HGK.out]; omega
   case rel =>
    refine ⟨na - 1, nb, m + 1, cutA (some ⟨g1, o1, none⟩) ca 1, ca - 1, B9, cb, A4, c4, ra', rb, done ++ [x], by omega, hmm, rfl, by first | rfl | rw [HB0.out], rfl, rfl, HNX, ?_, ?_, ?_⟩
    ·have := HLL.out
     rw [HRA.out, List.length_cons] at this
     exact H_ ⟨by omega, by omega, by rw [List.length_append]; simp; omega, by omega, by omega, by omega⟩
    ·have := (HRR.out.1).cutA (l := 1) (c := ca) (by omega) (by have := HLL.out; omega)
     rw [HRA.out] at this
     exact H_ ⟨this, HRR.out.2⟩
    rw [List.map_append]
    exact HT4
  have d2 : ((nb : Int) == 0) = false := by simp; omega
  obtain ⟨g2, o2, y, rb', hB, hrb, cy⟩ := (HDN.out wr HO.out.2.1).2 (by omega)
  subst hB
  have HRB := H_ hrb
  have hslB : ∀ W, (Instr.sliceAt 29 (.slice (some ⟨g2, o2, none⟩) nb cb) (some (.int .i64 1)) none none).run Tryz.prog W = .ok (.slice (cutA (some ⟨g2, o2, none⟩) cb 1) (nb - 1) (cb - 1)) W := fun W => cut_l Tryz.underlying29 (by kernel_rfl) _ nb cb 1 1 rfl (by omega) W
  clear hrb
  have hmm := HMM.out (by omega)
  have hpa : 0 < na := by omega
  have hpb : 0 < nb := by omega
  have d1n : decide (0 < na) = true := decide_eq_true hpa
  clear ha0 hb0
  have hxm : x ∈ ls1 ++ ls2 := HX.out.perm.mem_iff.1 (by rw [HRA.out]; simp)
  have hym : y ∈ ls1 ++ ls2 := HX.out.perm.mem_iff.1 (by rw [HRB.out]; simp)
  have HCMP : Hid (∀ W, Calls Tryz.prog 136 #[.string x, .string y] W fun e w' => e = .returned (.int .i64 (cmpS x y)) ∧ Keeps (fun _ => False) W w') := H_ fun W => rcompare_any W x y (HRI.out x hxm).1 (HRI.out y hym).1 (HRI.out x hxm).2 (HRI.out y hym).2
  clear hxm hym
  obtain ⟨q, hq⟩ : ∃ q, q = cmpS x y := ⟨_, rfl⟩
  rw [← hq] at HCMP
  have HTA : Hid (TwoAt wr wr ⟨g1, o1, none⟩ ⟨g2, o2, none⟩ (.string x) (.string y)) := H_ ⟨Keeps.refl _ _, cx, cy⟩
  by_cases hle : q ≤ 0
  ·have dq : decide (q ≤ 0) = true := decide_eq_true hle
   have HNX : Hid (Mix (ls1 ++ ls2) (done ++ [x]) ra' rb) := H_ (by
    have h1 := HX.out
    rw [HRA.out] at h1
    refine h1.left (fun s h => (HRI.out s h).1) fun z hz => ?_
    rw [HRB.out] at hz
    injection hz with hz
    rw [← hz]
    exact cmpS_le (by rw [← hq]; exact hle))
   clear hq
   go_upto_region 6 with fail
   refine wp_region_held_drew (S := fun W => TwoAt wr W ⟨g1, o1, none⟩ ⟨g2, o2, none⟩ (.string x) (.string y)) (by kernel_rfl) (HTA.out.stay (Keeps.refl _ _).drew) (fun h_ => ?_)
   refine tI 0 32 h_ ?_
   try simp only [pu]
   refine tI 1 33 h_ ?_
   try simp only [pu]
   refine tI 2 34 h_ ?_
   try simp only [pu]
   refine tI 3 35 h_ ?_
   try simp only [pu]
   refine tI 4 36 h_ ?_
   try simp only [pu]
   refine tI 5 37 h_ ?_
   try simp only [pu]
   refine tI 6 38 h_ ?_
   try simp only [pu]
   refine tI 7 39 h_ ?_
   try simp only [pu]
   refine tI 8 40 h_ ?_
   try simp only [pu]
   refine tI 9 41 h_ ?_
   try simp only [pu]
   refine tI 10 42 h_ ?_ (hy := .inl ⟨by rfl, by intro w' hSw; have cv := hSw.c1; go_simp; first | done | rfl⟩)
   try simp only [pu]
   refine tI 11 43 h_ ?_
   try simp only [pu]
   refine tI 12 44 h_ ?_
   try simp only [pu]
   refine tI 13 45 h_ ?_ (hy := .inl ⟨by rfl, by intro w' hSw; have cv := hSw.c2; go_simp; first | done | rfl⟩)
   try simp only [pu]
   refine rH 14 (some 46) fun K hK => ?_
   go_simp
   refine (HCMP.out _).mono ?_
   rintro e vv3 ⟨rfl, hkk⟩
   have hqq := h_.stay hkk
   refine hK.out _ _ hqq (fun h_ => ?_)
   clear hK K
   try simp only [pu]
   refine tI 15 47 h_ ?_
   try simp only [pu]
   refine tI 16 48 h_ ?_
   try simp only [pu]
   refine tI 17 49 h_ ?_
   try simp only [pu]
   refine wpAnyH_done (by kernel_rfl) ?_ _
   have HO3 := H_ (MineS.keep HO.out h_.keep)
   have cx2 := h_.c1
   clear h_
   go_wp2_with (at_builtin; refine wpList_append_mine vv2 _ rfl (.tmp 50) (.tmp 54) 29 rfl 9 (.string .empty) 1 16 Tryz.underlying29 (by kernel_rfl) rfl (by decide) rfl (HO3.out.alloc _) _ 1 1 [.string x] rfl (RdS.blk (Blk.new _ 9 [.string x]) rfl) (by intro u hu; rw [List.mem_singleton.1 hu]; rfl) (by unfold maxLen; omega) (by omega) ?_; intro A4 c4 w4 ht4; have HT4 := H_ ht4; clear ht4)
   go_roundg (na - 1 + nb)
   case measure => rw [HGK.out]; omega
   case rel =>
    refine ⟨na - 1, nb, m + 1, cutA (some ⟨g1, o1, none⟩) ca 1, ca - 1, some ⟨g2, o2, none⟩, cb, A4, c4, ra', rb, done ++ [x], by omega, hmm, rfl, by first | rfl | rw [HB0.out], rfl, rfl, HNX, ?_, ?_, ?_⟩
    ·have := HLL.out
     rw [HRA.out, List.length_cons] at this
     exact H_ ⟨by omega, by omega, by rw [List.length_append]; simp; omega, by omega, by omega, by omega⟩
    ·have := (HRR.out.1).cutA (l := 1) (c := ca) (by omega) (by have := HLL.out; omega)
     rw [HRA.out] at this
     exact H_ ⟨this, HRR.out.2⟩
    rw [List.map_append]
    exact HT4
  have dq : decide (q ≤ 0) = false := decide_eq_false hle
  have HNX : Hid (Mix (ls1 ++ ls2) (done ++ [y]) ra rb') := H_ (by
   have h1 := HX.out
   rw [HRB.out] at h1
   refine h1.right (fun s h => (HRI.out s h).1) fun z hz => ?_
   rw [HRA.out] at hz
   injection hz with hz
   rw [← hz]
   intro h4
   exact ltS_irrefl _ (ltS_trans h4 (cmpS_gt (by rw [← hq]; exact hle))))
  clear hq
  go_upto_region 6 with fail
  refine wp_region_held_drew (S := fun W => TwoAt wr W ⟨g1, o1, none⟩ ⟨g2, o2, none⟩ (.string x) (.string y)) (by kernel_rfl) (HTA.out.stay (Keeps.refl _ _).drew) (fun h_ => ?_)
  refine tI 0 32 h_ ?_
  try simp only [pu]
  refine tI 1 33 h_ ?_
  try simp only [pu]
  refine tI 2 34 h_ ?_
  try simp only [pu]
  refine tI 3 35 h_ ?_
  try simp only [pu]
  refine tI 4 36 h_ ?_
  try simp only [pu]
  refine tI 5 37 h_ ?_
  try simp only [pu]
  refine tI 6 38 h_ ?_
  try simp only [pu]
  refine tI 7 39 h_ ?_
  try simp only [pu]
  refine tI 8 40 h_ ?_
  try simp only [pu]
  refine tI 9 41 h_ ?_
  try simp only [pu]
  refine tI 10 42 h_ ?_ (hy := .inl ⟨by rfl, by intro w' hSw; have cv := hSw.c1; go_simp; first | done | rfl⟩)
  try simp only [pu]
  refine tI 11 43 h_ ?_
  try simp only [pu]
  refine tI 12 44 h_ ?_
  try simp only [pu]
  refine tI 13 45 h_ ?_ (hy := .inl ⟨by rfl, by intro w' hSw; have cv := hSw.c2; go_simp; first | done | rfl⟩)
  try simp only [pu]
  refine rH 14 (some 46) fun K hK => ?_
  go_simp
  refine (HCMP.out _).mono ?_
  rintro e vv3 ⟨rfl, hkk⟩
  have hqq := h_.stay hkk
  refine hK.out _ _ hqq (fun h_ => ?_)
  clear hK K
  try simp only [pu]
  refine tI 15 47 h_ ?_
  try simp only [pu]
  refine tI 16 48 h_ ?_
  try simp only [pu]
  refine tI 17 49 h_ ?_
  try simp only [pu]
  refine wpAnyH_done (by kernel_rfl) ?_ _
  have HO3 := H_ (MineS.keep HO.out h_.keep)
  have cy2 := h_.c2
  clear h_
  go_wp2_with (at_builtin; refine wpList_append_mine vv2 _ rfl (.tmp 58) (.tmp 62) 29 rfl 9 (.string .empty) 1 16 Tryz.underlying29 (by kernel_rfl) rfl (by decide) rfl (HO3.out.alloc _) _ 1 1 [.string y] rfl (RdS.blk (Blk.new _ 9 [.string y]) rfl) (by intro u hu; rw [List.mem_singleton.1 hu]; rfl) (by unfold maxLen; omega) (by omega) ?_; intro A4 c4 w4 ht4; have HT4 := H_ ht4; clear ht4)
  go_roundg (na + (nb - 1))
  case measure => rw [HGK.out]; omega
  case rel =>
   refine ⟨na, nb - 1, m + 1, some ⟨g1, o1, none⟩, ca, cutA (some ⟨g2, o2, none⟩) cb 1, cb - 1, A4, c4, ra, rb', done ++ [y], by omega, hmm, by first | rfl | rw [HA0.out], rfl, rfl, rfl, HNX, ?_, ?_, ?_⟩
   ·have := HLL.out
    rw [HRB.out, List.length_cons] at this
    exact H_ ⟨by omega, by omega, by rw [List.length_append]; simp; omega, by omega, by omega, by omega⟩
   ·have := (HRR.out.2).cutA (l := 1) (c := cb) (by omega) (by have := HLL.out; omega)
    rw [HRB.out] at this
    exact H_ ⟨HRR.out.1, this⟩
   rw [List.map_append]
   exact HT4
theorem rsorted_any : ∀ (n : Nat) (w : World) (B : Option Addr) (d : Nat) (ks : List ByteArray), ks.length = n → n ≤ d → Rd w B n (ks.map .string) → n ≤ 1099511627776 → (∀ s ∈ ks, s.size ≤ 1099511627776) → (∀ s ∈ ks, rightS s = true) →
  Calls Tryz.prog 117 #[.slice B n d] w (SortedPost w ks) := by
 intro n
 induction n using Nat.strongRecOn with
 | ind n ih =>
  intro w B d ks hn hd hr hm hs hri
  rcases Nat.lt_or_ge n 2 with h2 | h2
  ·exact rsorted_few w B n d ks hn hr h2
  ·exact rsorted_many w B n d ks hn hd hr h2 hm hs hri fun W B' d' ls hl hld hrl hsub =>
    ih ls.length hl W B' d' ls rfl hld hrl (by omega) (fun s h => hs s (hsub s h)) (fun s h => hri s (hsub s h))
end Go.Proofs.YtdmcioghdindfaaGreatDoor
