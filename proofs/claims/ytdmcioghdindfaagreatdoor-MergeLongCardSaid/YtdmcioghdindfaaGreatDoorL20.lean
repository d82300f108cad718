/- Texts. -/
import Derived.Test.YtdmcioghdindfaaGreatDoorL18
import Derived.Test.YtdmcioghdindfaaGreatDoorL19
import Derived.Test.YtdmcioghdindfaaGreatDoorL16
set_option linter.unusedSimpArgs false
set_option maxRecDepth 100000
set_option maxHeartbeats 4000000
namespace Go.Proofs.YtdmcioghdindfaaGreatDoor
open Go Go.RowKit Go.Aff Go.Json Go.Shelf
theorem do_obj_panic (T : TypeId) (D : Nat → Prop) (w : World) (p : Nat) (A : Option Addr) (c : Nat) (vs : List Value) (P : List JV) (h : RowAt T D w p A c vs P) (hn : P.length ≤ 1048576) (s : StepV) (B : Option Addr) (d : Nat) (hu : usedF s = true) (hs : s.sort = 6) (k : Int) (hd : doF P s = .inl k) (hO : ∀ W, Keeps (fun _ => False) w W → Calls Tryz.prog 85 #[.pointer (some ⟨p, 0, none⟩), .slice B s.keys.length d] W fun e w' => e = errP k ∧ Keeps (fun _ => False) W w') :
  Calls Tryz.prog 48 #[.pointer (some ⟨p, 0, none⟩), .agg (stepV s B d).toArray] w (DoPost T D w p (.slice A P.length c) P s) := by
 have _ := hn
 have HQ := H_ (DoQ.made w s B d)
 obtain ⟨SV, hSV⟩ : ∃ SV, SV = stepV s B d := ⟨_, rfl⟩
 rw [← hSV] at HQ ⊢
 have HU : Hid (∀ W, Calls Tryz.prog 77 #[.agg SV.toArray] W fun e w' => e = .returned (.bool true) ∧ Keeps (fun _ => False) W w') := H_ fun W => by
  have := used_any W s B d
  rw [hu, ← hSV] at this
  exact this
 have HSI : Hid ((Tryz.prog.info? 53).map (·.size) = some SV.length) := H_ (by rw [hSV, stepV_len]; kernel_rfl)
 have HS := H_ hs
 have HR := H_ h
 have hmf : ∀ (fn : Fn) (first cap : Array Value) (w : World), (Instr.makeFunc fn first cap).run Tryz.prog w = .ok (.func fn first cap) w := fun _ _ _ _ => rfl
 clear h hSV
 have HD := H_ hd
 have HO := H_ hO
 clear hd hO
 go_enter_defers Tryz.func48, Tryz.ntmps48
 go_wp2_with (first
  | ((with_reducible show wpList _ _ _ (⟨some 8, _, _, _, _, _⟩ :: _) _ _); refine wpList_load_whole rfl 53 _ rfl _ rfl HQ.out.blk Tryz.underlying53 rfl HSI.out ?_)
  | (go_at_call 77; refine (HU.out _).mono ?_; rintro e w2 ⟨rfl, hk2⟩; have HQ2 := H_ (HQ.out.stay hk2); obtain ⟨s0, s1, s2, s3, s4, s5⟩ := HQ2.out.cells; rw [HS.out] at s0; have tk : True := trivial; clear hk2)
  | (go_at_call 76; refine (refuse_ok _ _).mono ?_; rintro e w3 ⟨he, rfl⟩; subst he)
  | (go_at_call 85; refine (HO.out _ HQ2.out.keep).mono ?_; rintro e w6 ⟨he, hk6⟩; unfold errP at he; subst he; have HQ6 := H_ (HQ2.out.stay hk6); clear hk6))
 have hbe := HQ6.out.err
 refine leaves_cons (f := 75) (args := #[.pointer (some ⟨w.heap.size + 1, 0, none⟩)]) (by simp) (by simp [go_sem]) ?_
 refine (do_catch (w.heap.size + 1) k [] _ hbe).mono ?_
 rintro e u' w'' ⟨rfl, rfl, hb, hk⟩
 refine ⟨_, results_err rfl _ _ _ _ rfl hb, ?_⟩
 unfold DoPost
 rw [HD.out]
 exact ⟨rfl, HQ6.out.keep.trans hk (fun i hi e => by omega)⟩
theorem do_obj_ok (T : TypeId) (D : Nat → Prop) (w : World) (p : Nat) (A : Option Addr) (c : Nat) (vs : List Value) (P : List JV) (h : RowAt T D w p A c vs P) (hn : P.length ≤ 1048576) (s : StepV) (B : Option Addr) (d : Nat) (hu : usedF s = true) (hs : s.sort = 6) (P' : List JV) (hd : doF P s = .inr P') (hO : ∀ W, Keeps (fun _ => False) w W → Calls Tryz.prog 85 #[.pointer (some ⟨p, 0, none⟩), .slice B s.keys.length d] W fun e w' => e = .returned (.tuple #[]) ∧ RowPost T D W p (.slice A P.length c) P' w') :
  Calls Tryz.prog 48 #[.pointer (some ⟨p, 0, none⟩), .agg (stepV s B d).toArray] w (DoPost T D w p (.slice A P.length c) P s) := by
 have _ := hn
 have HQ := H_ (DoQ.made w s B d)
 obtain ⟨SV, hSV⟩ : ∃ SV, SV = stepV s B d := ⟨_, rfl⟩
 rw [← hSV] at HQ ⊢
 have HU : Hid (∀ W, Calls Tryz.prog 77 #[.agg SV.toArray] W fun e w' => e = .returned (.bool true) ∧ Keeps (fun _ => False) W w') := H_ fun W => by
  have := used_any W s B d
  rw [hu, ← hSV] at this
  exact this
 have HSI : Hid ((Tryz.prog.info? 53).map (·.size) = some SV.length) := H_ (by rw [hSV, stepV_len]; kernel_rfl)
 have HS := H_ hs
 have HR := H_ h
 have hmf : ∀ (fn : Fn) (first cap : Array Value) (w : World), (Instr.makeFunc fn first cap).run Tryz.prog w = .ok (.func fn first cap) w := fun _ _ _ _ => rfl
 clear h hSV
 have HD := H_ hd
 have HO := H_ hO
 clear hd hO
 go_enter_defers Tryz.func48, Tryz.ntmps48
 go_wp2_with (first
  | ((with_reducible show wpList _ _ _ (⟨some 8, _, _, _, _, _⟩ :: _) _ _); refine wpList_load_whole rfl 53 _ rfl _ rfl HQ.out.blk Tryz.underlying53 rfl HSI.out ?_)
  | (go_at_call 77; refine (HU.out _).mono ?_; rintro e w2 ⟨rfl, hk2⟩; have HQ2 := H_ (HQ.out.stay hk2); obtain ⟨s0, s1, s2, s3, s4, s5⟩ := HQ2.out.cells; rw [HS.out] at s0; have tk : True := trivial; clear hk2)
  | (go_at_call 76; refine (refuse_ok _ _).mono ?_; rintro e w3 ⟨he, rfl⟩; subst he)
  | (go_at_call 85; refine (HO.out _ HQ2.out.keep).mono ?_; rintro e w4 ⟨rfl, hr4⟩; have hbe := HQ2.out.err_row HR.out hr4.2; have HR4 := H_ hr4; have HBE := H_ hbe; have c0 := hbe.cell 0; have f0 := hbe.frozen 0; clear hr4 hbe))
 rw [set_same HBE.out]
 refine leaves_cons (f := 75) (args := #[.pointer (some ⟨w.heap.size + 1, 0, none⟩)]) (by simp) (by simp [go_sem]) ?_
 refine (do_idle ⟨w.heap.size + 1, 0, none⟩ _).mono ?_
 rintro e u' w'' ⟨rfl, rfl, rfl⟩
 refine ⟨_, results_err rfl _ _ _ _ rfl HBE.out, ?_⟩
 unfold DoPost
 rw [HD.out]
 exact ⟨rfl, HR4.out.1, (HQ2.out.keep.mono (fun _ _ h => h.elim)).trans HR4.out.2 (fun _ _ h => h)⟩
structure StepFits (s : StepV) : Prop where
 text : s.text.size ≤ 1152921504606846976
 keys : byF s.keys ≤ 1099511627776
 many : s.keys.length ≤ 1099511627776
 bits : s.bits < 18446744073709551616
theorem do_object (s : StepV) (hf : StepFits s) (hu : usedF s = true) (hs : s.sort = 6) : DoSpec s := fun T D w p A c vs P h hn hP B d hk => by
 have hO : ∀ W, Keeps (fun _ => False) w W → Calls Tryz.prog 85 #[.pointer (some ⟨p, 0, none⟩), .slice B s.keys.length d] W (ObjPost T D W p (.slice A P.length c) P s.keys) := fun W hW =>
  object_any T D W p A c vs P (h.stay hW) hn hP s.keys s.keys.length rfl hf.many hf.keys B d (hk.keep hW (fun _ _ _ h => h))
 unfold ObjPost at hO
 rcases hr : s.keys.all rightS with _ | _
 ·refine do_obj_panic T D w p A c vs P h hn s B d hu hs 100 (doF_obj_wrong hu hs hr) fun W hW => ?_
  exact (hO W hW).mono fun e w' hh => by rw [if_pos hr] at hh; exact hh
 have hd := doF_obj (P := P) hu hs hr
 by_cases h1 : s.keys.Nodup
 ·rw [if_neg (by simpa using h1)] at hd
  by_cases h2 : P.length < s.keys.length
  ·rw [if_pos h2] at hd
   refine do_obj_panic T D w p A c vs P h hn s B d hu hs 102 hd fun W hW => ?_
   exact (hO W hW).mono fun e w' hh => by rw [if_neg (by rw [hr]; simp), if_neg (by simpa using h1), if_pos h2] at hh; exact hh
  rw [if_neg h2] at hd
  by_cases h3 : (mkObj s.keys (P.drop (P.length - s.keys.length))).within
  ·rw [if_neg (by simpa using h3)] at hd
   refine do_obj_ok T D w p A c vs P h hn s B d hu hs _ hd fun W hW => ?_
   exact (hO W hW).mono fun e w' hh => by rw [if_neg (by rw [hr]; simp), if_neg (by simpa using h1), if_neg h2, if_neg (by simpa using h3)] at hh; exact hh
  rw [if_pos (by simpa using h3)] at hd
  refine do_obj_panic T D w p A c vs P h hn s B d hu hs 3 hd fun W hW => ?_
  exact (hO W hW).mono fun e w' hh => by rw [if_neg (by rw [hr]; simp), if_neg (by simpa using h1), if_neg h2, if_pos (by simpa using h3)] at hh; exact hh
 rw [if_pos h1] at hd
 refine do_obj_panic T D w p A c vs P h hn s B d hu hs 101 hd fun W hW => ?_
 exact (hO W hW).mono fun e w' hh => by rw [if_neg (by rw [hr]; simp), if_pos h1] at hh; exact hh
theorem do_any (s : StepV) (hf : StepFits s) : DoSpec s := by
 rcases hu : usedF s with _ | _
 ·exact fun T D w p A c vs P h hn _ B d _ => do_unused T D w p A c vs P h hn s B d hu
 obtain ⟨_, u2, u3, h1, h6, h0⟩ := used_parts hu
 have hs : s.sort = 1 ∨ s.sort = 2 ∨ s.sort = 3 ∨ s.sort = 4 ∨ s.sort = 5 ∨ s.sort = 6 := by omega
 rcases hs with hs | hs | hs | hs | hs | hs
 ·exact do_null_spec s hu hs
 ·exact fun T D w p A c vs P h hn _ B d _ => do_flag T D w p A c vs P h hn s B d hu hs
 ·exact fun T D w p A c vs P h hn _ B d _ => do_num_spec s hu hs hf.bits T D w p A c vs P h hn B d
 ·intro T D w p A c vs P h hn _ B d _
  rcases hr : rightS s.text with _ | _
  ·exact do_text_bad T D w p A c vs P h hn s B d hu hs hf.text hr
  by_cases hl : s.text.size ≤ 2097152
  ·exact do_text_ok T D w p A c vs P h hn s B d hu hs hr hl
  exact do_text_long T D w p A c vs P h hn s B d hu hs hr hl hf.text
 ·intro T D w p A c vs P h hn hP B d _
  obtain ⟨k, hk⟩ : ∃ k : Nat, s.count = k := ⟨s.count.toNat, by omega⟩
  by_cases hle : k ≤ P.length
  ·by_cases hw : (JV.list (P.drop (P.length - k))).within
   ·exact do_list_ok T D w p A c vs P h hn s B d hu hs k hk hle hP hw
   exact do_list_long T D w p A c vs P h hn s B d hu hs k hk hle hP hw
  exact do_list_few T D w p A c vs P h hn s B d hu hs (by omega)
 exact do_object s hf hu hs
theorem Build_any (w : World) (A : Option Addr) (n c : Nat) (l : List StepV) (hn : l.length = n) (hS : StepsAt w A l) (hf : ∀ s ∈ l, StepFits s) :
  Calls Tryz.prog 17 #[.slice A n c] w (BuildPost w l) := Build_spec w A n c l hn hS fun s hs => do_any s (hf s hs)
end Go.Proofs.YtdmcioghdindfaaGreatDoor
namespace Go.Aff
open Go Go.RowKit
theorem own_shortS {w : World} {base s : Nat} {e : TypeId} {A : Option Addr} {n k c : Nat} {xs : List Value} (h : w.ownsRow base e s (.slice A n c) n xs) (hk : k ≤ n) : w.ownsRow base e s (.slice A k c) k (xs.take (k * s)) := by
 have hle : k * s ≤ n * s := Nat.mul_le_mul_right s hk
 refine ⟨by rw [List.length_take, h.1]; omega, ?_⟩
 rcases h.2 with ⟨hv, hn⟩ | ⟨g, cap, cur, hv, hb, hg, hle2, hm, hs, ht⟩
 ·injection hv with h1 _ h3
  subst h1 h3
  obtain rfl : k = 0 := by omega
  exact .inl ⟨rfl, rfl⟩
 injection hv with h1 _ h3
 subst h1 h3
 refine .inr ⟨g, c, cur, rfl, hb, hg, by omega, hm, hs, ?_⟩
 rw [← ht, List.take_take]
 congr 1
 omega
theorem MineS.short {s : Nat} {w wr : World} {e : TypeId} {A : Option Addr} {n k c : Nat} {xs : List Value} (h : MineS s w wr e A n c xs) (hk : k ≤ n) : MineS s w wr e A k c (xs.take (k * s)) :=
 ⟨own_shortS h.1 hk, h.2.1, fun g hg => h.2.2 g (by cases A <;> exact hg)⟩
theorem MineS.none0 (s : Nat) (w wr : World) (e : TypeId) (hk : Keeps (fun _ => False) w wr) : MineS s w (wr.alloc (.cells #[] e)) e (some ⟨wr.heap.size, 0, none⟩) 0 0 [] :=
 ⟨⟨by simp, .inr ⟨wr.heap.size, 0, #[], rfl, Nat.zero_le _, heap_alloc_new wr _, Nat.le_refl _, by decide, by simp, by simp⟩⟩, hk.alloc _, fun g h => by have e1 : some wr.heap.size = some g := h; injection e1 with e1; have := hk.size; omega⟩
theorem flat_take6 : ∀ {css : List (List Value)} (l : Nat), (∀ c ∈ css, c.length = 6) → (css.take l).flatten = css.flatten.take (l * 6)
 | [], l, _ => by simp
 | c :: css, 0, _ => by simp
 | c :: css, l + 1, h => by
  have h6 := h c List.mem_cons_self
  have ht : c.take ((l + 1) * 6) = c := List.take_of_length_le (by omega)
  rw [List.take_succ_cons, List.flatten_cons, List.flatten_cons, List.take_append, ht, h6, flat_take6 l fun d hd => h d (List.mem_cons_of_mem _ hd), show (l + 1) * 6 - 6 = l * 6 by omega]
theorem flat_drop6 : ∀ {css : List (List Value)} (l : Nat), (∀ c ∈ css, c.length = 6) → (css.drop l).flatten = css.flatten.drop (l * 6)
 | [], l, _ => by simp
 | c :: css, 0, _ => by simp
 | c :: css, l + 1, h => by
  have h6 := h c List.mem_cons_self
  have ht : c.drop ((l + 1) * 6) = [] := List.drop_eq_nil_of_le (by omega)
  rw [List.drop_succ_cons, List.flatten_cons, List.drop_append, ht, h6, flat_drop6 l fun d hd => h d (List.mem_cons_of_mem _ hd), List.nil_append, show (l + 1) * 6 - 6 = l * 6 by omega]
end Go.Aff
namespace Go.Proofs.YtdmcioghdindfaaGreatDoor
open Go Go.RowKit Go.Aff Go.Json
def Br (w0 : World) (v : Value) (i : Nat) : Prop := w0.heap.size ≤ i ∧ v.ownBlock ≠ some i
structure RowR (w0 w : World) (A : Option Addr) (m c : Nat) (css : List (List Value)) (P : List JV) : Prop where
 own : MineS 6 w0 w 31 A m c css.flatten
 len : P.length = m
 lst : RList (Br w0 (.slice A m c)) w css P
section
variable {w0 w w' : World} {A : Option Addr} {m c : Nat} {css : List (List Value)} {P : List JV}
theorem RowR.nil (w : World) : RowR w w none 0 0 [] [] := ⟨MineS.nil 6 w _, rfl, RList.nil _ w⟩
theorem RowR.stay (h : RowR w0 w A m c css P) (hk : Keeps (fun _ => False) w w') : RowR w0 w' A m c css P := ⟨h.own.keep hk, h.len, h.lst.stay hk⟩
theorem ownBlock_len (A : Option Addr) (n m c d : Nat) : (Value.slice A n c).ownBlock = (Value.slice A m d).ownBlock := by cases A <;> rfl
theorem RowR.br_new (h : RowR w0 w A m c css P) {i : Nat} (hi : w.heap.size ≤ i) : Br w0 (.slice A m c) i := ⟨Nat.le_trans h.own.2.1.size hi, fun e => by have := h.own.own_lt e; omega⟩
theorem RowR.grouped (h : RowR w0 w A m c css P) {l : Nat} (hl : l ≤ m) {v : List Value} {j : JV} (hv : RAt (Br w0 (.slice A m c)) w v j) {W : World} (hW : Keeps (fun _ => False) w W) {A' : Option Addr} {c' : Nat}
  (ho : w'.ownsRow 0 31 6 (.slice A' (l + 1) c') (l + 1) (css.flatten.take (l * 6) ++ v)) (hg : W.grownBy w' (Value.slice A l c).ownBlock)
  (hb : (Value.slice A' (l + 1) c').ownBlock = (Value.slice A l c).ownBlock ∨ (Value.slice A' (l + 1) c').ownBlock = some W.heap.size) :
  RowR w0 w' A' (l + 1) c' (css.take l ++ [v]) (P.take l ++ [j]) := by
 have hf : (css.take l ++ [v]).flatten = css.flatten.take (l * 6) ++ v := by
  rw [List.flatten_append, flat_take6 l h.lst.six]
  simp
 have hob := ownBlock_len A l m c c
 refine ⟨?_, by rw [List.length_append, List.length_take, h.len]; simp; omega, ?_⟩
 ·rw [hf]
  exact ((h.own.keep hW).short hl).grown ho hg hb
 have hall : Keeps (fun i => (Value.slice A m c).ownBlock = some i) w w' := (hW.mono (fun _ _ h => h.elim)).trans (Keeps.of_grown hg) (fun i _ e => hob ▸ e)
 have hlst : RList (Br w0 (.slice A m c)) w (css.take l ++ [v]) (P.take l ++ [j]) := (h.lst.take l).app (RList.one hv)
 refine ((hlst.mono (C := fun i => Br w0 (.slice A m c) i ∧ i < w.heap.size) fun i hi hlt => ⟨hi, hlt⟩).keep hall fun i hi e => hi.1.2 e).mono fun i hi _ => ⟨hi.1.1, fun e => ?_⟩
 rcases hb with e1 | e1
 ·rw [e1, hob] at e; exact hi.1.2 e
 rw [e1] at e
 injection e with e
 have := hW.size
 have := hi.2
 omega
end
theorem sums_mk {L : List JV} (h : ∀ x ∈ L, x.within) (hm : L.length ≤ 1048576) : sumN (L.map fun x => x.nodes) ≤ 68719476736 ∧ sumN (L.map fun x => x.bytes) ≤ 2199023255552 ∧ maxN (L.map fun x => x.deep) ≤ 512 := by
 have := sums_small (m := 1048576) h hm
 unfold sums at this
 simp only at this
 exact ⟨by omega, by omega, by omega⟩
theorem small_mkV {s : StepV} {L : List JV} (hf : StepFits s) (h : ∀ x ∈ L, x.within) (hm : L.length ≤ 1048576) (hl : s.sort = 6 → L.length = s.keys.length) (hu : usedF s = true) : SmallJ (mkV s L) := by
 obtain ⟨_, _, _, h1, h6, _⟩ := used_parts hu
 obtain ⟨b1, b2, b3⟩ := sums_mk h hm
 unfold mkV
 by_cases a1 : s.sort = 1
 ·rw [if_pos a1]; exact ⟨by simp [JV.nodes], by simp [JV.bytes], by simp [JV.deep]⟩
 rw [if_neg a1]
 by_cases a2 : s.sort = 2
 ·rw [if_pos a2]; exact ⟨by simp [JV.nodes], by simp [JV.bytes], by simp [JV.deep]⟩
 rw [if_neg a2]
 by_cases a3 : s.sort = 3
 ·rw [if_pos a3]; exact ⟨by simp [JV.nodes], by simp [JV.bytes], by simp [JV.deep]⟩
 rw [if_neg a3]
 by_cases a4 : s.sort = 4
 ·rw [if_pos a4]; exact ⟨by simp [JV.nodes], by simp only [JV.bytes]; exact hf.text, by simp [JV.deep]⟩
 rw [if_neg a4]
 by_cases a5 : s.sort = 5
 ·rw [if_pos a5]; exact ⟨by simp only [JV.nodes]; omega, by simp only [JV.bytes]; omega, by simp only [JV.deep]; omega⟩
 rw [if_neg a5]
 have hz := obj_sizes (ks := s.keys) (L := L) (hl (by omega)).symm
 unfold sizeV at hz
 simp only [List.cons.injEq, Value.int.injEq, true_and, and_true] at hz
 have hk := hf.keys
 unfold byF at hk
 unfold sums at hz
 simp only at hz
 exact ⟨by omega, by omega, by omega⟩
def DoRPost (w0 w : World) (A : Option Addr) (m c : Nat) (P : List JV) (s : StepV) (e : Ending) (w' : World) : Prop := match doF P s with
 | .inl k => e = .returned (.tuple #[.slice A m c, .int .i64 k]) ∧ Keeps (fun _ => False) w w'
 | .inr P' => ∃ A' c' css', e = .returned (.tuple #[.slice A' P'.length c', .int .i64 0]) ∧ RowR w0 w' A' P'.length c' css' P'
theorem Boxed.step {w W : World} {b : Nat} {s : StepV} {B : Option Addr} {d : Nat} {SV : List Value} (h : Boxed w W b 65 SV) (hs : SV = stepV s B d) : StepCells W b SV s B d := by
 have hb := h.blk
 rw [hs] at hb
 exact ⟨hb.cell 0, hb.cell 1, hb.cell 2, hb.cell 3, hb.cell 4, hb.cell 5⟩
theorem rdo_unused (w0 w : World) (A : Option Addr) (m c : Nat) (css : List (List Value)) (P : List JV) (h : RowR w0 w A m c css P) (hm : m ≤ 1048576) (hP : RowOk P) (s : StepV) (hf : StepFits s) (B : Option Addr) (d : Nat) (hk : Rd w B s.keys.length (s.keys.map .string)) (hd : s.keys.length ≤ d) (hu : usedF s = false) :
  Calls Tryz.prog 54 #[.slice A m c, .agg (stepV s B d).toArray] w (DoRPost w0 w A m c P s) := by
 have HU := H_ hu
 have HD : Hid (doF P s = .inl 2) := H_ (by unfold doF; rw [if_pos hu])
 clear hu
 have HSF := H_ hf
 have HB0 := H_ (Boxed.made w 65 (stepV s B d))
 obtain ⟨SV, hSV⟩ : ∃ SV, SV = stepV s B d := ⟨_, rfl⟩
 rw [← hSV] at HB0 ⊢
 have HSV := H_ hSV
 have HSI : Hid ((Tryz.prog.info? 65).map (·.size) = some SV.length) := H_ (by rw [hSV, stepV_len]; kernel_rfl)
 have HUS : Hid (∀ W, Calls Tryz.prog 91 #[.agg SV.toArray] W fun e w' => e = .returned (.bool (usedF s)) ∧ Keeps (fun _ => False) W w') := H_ fun W => by rw [hSV]; exact rused_any W s B d
 have HFI : Hid (∀ W, Calls Tryz.prog 92 #[.int .u64 s.bits] W fun e w' => e = .returned (.bool (finiteF s.bits)) ∧ w' = W) := H_ fun W => rfinite_any W s.bits hf.bits
 have HRT : Hid (∀ W, Calls Tryz.prog 93 #[.string s.text] W fun e w' => e = .returned (.bool (rightS s.text)) ∧ w' = W) := H_ fun W => rright_any W s.text hf.text
 have HRK : Hid (∀ W, Keeps (fun _ => False) w W → Calls Tryz.prog 94 #[.slice B s.keys.length d] W fun e w' => e = .returned (.bool (s.keys.all rightS)) ∧ w' = W) := H_ fun W hW =>
  rkeys_any W B _ d s.keys rfl (hk.keep hW (fun _ _ _ h => h)) (fun k hk => by have := size_le hk; have := hf.keys; omega) (by have := hf.many; omega)
 have HTW : Hid (s.keys.all rightS = true → ∀ W, Keeps (fun _ => False) w W → Calls Tryz.prog 95 #[.slice B s.keys.length d] W fun e w' => e = .returned (.bool (decide (¬ s.keys.Nodup))) ∧ Keeps (fun _ => False) W w') := H_ fun hr W hW =>
  rtwice_any W B _ d s.keys rfl hd (hk.keep hW (fun _ _ _ h => h)) (by have := hf.many; omega) (fun k hk => by have := size_le hk; have := hf.keys; omega) (fun k hk => List.all_eq_true.1 hr k hk)
 have HNK := H_ hf.many
 have HH := H_ h
 have HPO := H_ hP
 have HKR := H_ hk
 have HHD := H_ hd
 clear h hP hf hk hd hSV
 have HMM := H_ hm
 go_enter Tryz.func54, Tryz.ntmps54
 go_wp2_with (first
  | ((with_reducible show wpList _ _ _ (⟨some 9, _, _, _, _, _⟩ :: _) _ _); refine wpList_load_whole rfl 65 _ rfl _ rfl HB0.out.blk Tryz.underlying65 rfl HSI.out ?_)
  | (go_at_call 91; refine (HUS.out _).mono ?_; rintro e w2 ⟨rfl, hk2⟩; rw [HU.out]; have HB2 := H_ (HB0.out.stay hk2); obtain ⟨s0, s1, s2, s3, s4, s5⟩ := HB2.out.step HSV.out; clear hk2)
  | (go_at_call 92; refine (HFI.out _).mono ?_; rintro e w3 ⟨rfl, hw3⟩; subst w3; rw [HF.out])
  | (go_at_call 93; refine (HRT.out _).mono ?_; rintro e w3 ⟨rfl, hw3⟩; subst w3; rw [HT.out])
  | (go_at_call 94; refine (HRK.out _ HB2.out.keep).mono ?_; rintro e w3 ⟨rfl, hw3⟩; subst w3; rw [HK.out])
  | (go_at_call 95; refine (HTW.out HK.out _ HB2.out.keep).mono ?_; rintro e w4 ⟨rfl, hk4⟩; rw [HN.out]; have HB4 := H_ (HB2.out.stay hk4); obtain ⟨t0, t1, t2, t3, t4, t5⟩ := HB4.out.step HSV.out; clear hk4)
  )
 go_ret2
 unfold DoRPost
 rw [HD.out]
 exact ⟨rfl, HB2.out.keep⟩
theorem rdo_inf (w0 w : World) (A : Option Addr) (m c : Nat) (css : List (List Value)) (P : List JV) (h : RowR w0 w A m c css P) (hm : m ≤ 1048576) (hP : RowOk P) (s : StepV) (hf : StepFits s) (B : Option Addr) (d : Nat) (hk : Rd w B s.keys.length (s.keys.map .string)) (hd : s.keys.length ≤ d) (hu : usedF s = true) (h3 : s.sort = 3) (hfi : finiteF s.bits = false) :
  Calls Tryz.prog 54 #[.slice A m c, .agg (stepV s B d).toArray] w (DoRPost w0 w A m c P s) := by
 have HU := H_ hu
 have HF := H_ hfi
 have HD : Hid (doF P s = .inl 104) := H_ (by unfold doF; rw [if_neg (by rw [hu]; decide), if_pos ⟨h3, hfi⟩])
 have e3 : (s.sort == 3) = true := by rw [h3]; rfl
 clear hu h3 hfi
 have HSF := H_ hf
 have HB0 := H_ (Boxed.made w 65 (stepV s B d))
 obtain ⟨SV, hSV⟩ : ∃ SV, SV = stepV s B d := ⟨_, rfl⟩
 rw [← hSV] at HB0 ⊢
 have HSV := H_ hSV
 have HSI : Hid ((Tryz.prog.info? 65).map (·.size) = some SV.length) := H_ (by rw [hSV, stepV_len]; kernel_rfl)
 have HUS : Hid (∀ W, Calls Tryz.prog 91 #[.agg SV.toArray] W fun e w' => e = .returned (.bool (usedF s)) ∧ Keeps (fun _ => False) W w') := H_ fun W => by rw [hSV]; exact rused_any W s B d
 have HFI : Hid (∀ W, Calls Tryz.prog 92 #[.int .u64 s.bits] W fun e w' => e = .returned (.bool (finiteF s.bits)) ∧ w' = W) := H_ fun W => rfinite_any W s.bits hf.bits
 have HRT : Hid (∀ W, Calls Tryz.prog 93 #[.string s.text] W fun e w' => e = .returned (.bool (rightS s.text)) ∧ w' = W) := H_ fun W => rright_any W s.text hf.text
 have HRK : Hid (∀ W, Keeps (fun _ => False) w W → Calls Tryz.prog 94 #[.slice B s.keys.length d] W fun e w' => e = .returned (.bool (s.keys.all rightS)) ∧ w' = W) := H_ fun W hW =>
  rkeys_any W B _ d s.keys rfl (hk.keep hW (fun _ _ _ h => h)) (fun k hk => by have := size_le hk; have := hf.keys; omega) (by have := hf.many; omega)
 have HTW : Hid (s.keys.all rightS = true → ∀ W, Keeps (fun _ => False) w W → Calls Tryz.prog 95 #[.slice B s.keys.length d] W fun e w' => e = .returned (.bool (decide (¬ s.keys.Nodup))) ∧ Keeps (fun _ => False) W w') := H_ fun hr W hW =>
  rtwice_any W B _ d s.keys rfl hd (hk.keep hW (fun _ _ _ h => h)) (by have := hf.many; omega) (fun k hk => by have := size_le hk; have := hf.keys; omega) (fun k hk => List.all_eq_true.1 hr k hk)
 have HNK := H_ hf.many
 have HH := H_ h
 have HPO := H_ hP
 have HKR := H_ hk
 have HHD := H_ hd
 clear h hP hf hk hd hSV
 have HMM := H_ hm
 go_enter Tryz.func54, Tryz.ntmps54
 go_wp2_with (first
  | ((with_reducible show wpList _ _ _ (⟨some 9, _, _, _, _, _⟩ :: _) _ _); refine wpList_load_whole rfl 65 _ rfl _ rfl HB0.out.blk Tryz.underlying65 rfl HSI.out ?_)
  | (go_at_call 91; refine (HUS.out _).mono ?_; rintro e w2 ⟨rfl, hk2⟩; rw [HU.out]; have HB2 := H_ (HB0.out.stay hk2); obtain ⟨s0, s1, s2, s3, s4, s5⟩ := HB2.out.step HSV.out; clear hk2)
  | (go_at_call 92; refine (HFI.out _).mono ?_; rintro e w3 ⟨rfl, hw3⟩; subst w3; rw [HF.out])
  | (go_at_call 93; refine (HRT.out _).mono ?_; rintro e w3 ⟨rfl, hw3⟩; subst w3; rw [HT.out])
  | (go_at_call 94; refine (HRK.out _ HB2.out.keep).mono ?_; rintro e w3 ⟨rfl, hw3⟩; subst w3; rw [HK.out])
  | (go_at_call 95; refine (HTW.out HK.out _ HB2.out.keep).mono ?_; rintro e w4 ⟨rfl, hk4⟩; rw [HN.out]; have HB4 := H_ (HB2.out.stay hk4); obtain ⟨t0, t1, t2, t3, t4, t5⟩ := HB4.out.step HSV.out; clear hk4)
  )
 go_ret2
 unfold DoRPost
 rw [HD.out]
 exact ⟨rfl, HB2.out.keep⟩
theorem rdo_text (w0 w : World) (A : Option Addr) (m c : Nat) (css : List (List Value)) (P : List JV) (h : RowR w0 w A m c css P) (hm : m ≤ 1048576) (hP : RowOk P) (s : StepV) (hf : StepFits s) (B : Option Addr) (d : Nat) (hk : Rd w B s.keys.length (s.keys.map .string)) (hd : s.keys.length ≤ d) (hu : usedF s = true) (h3 : s.sort = 3 → finiteF s.bits = true) (ht : rightS s.text = false) :
  Calls Tryz.prog 54 #[.slice A m c, .agg (stepV s B d).toArray] w (DoRPost w0 w A m c P s) := by
 have HU := H_ hu
 have HT := H_ ht
 have HD : Hid (doF P s = .inl 100) := H_ (by unfold doF; rw [if_neg (by rw [hu]; decide), if_neg (fun e => by rw [h3 e.1] at e; exact absurd e.2 (by decide)), if_pos (.inl ht)])
 by_cases a3 : s.sort = 3
 ·have e3 : (s.sort == 3) = true := by rw [a3]; rfl
  have HF := H_ (h3 a3)
  clear hu h3 a3 ht
  have HSF := H_ hf
  have HB0 := H_ (Boxed.made w 65 (stepV s B d))
  obtain ⟨SV, hSV⟩ : ∃ SV, SV = stepV s B d := ⟨_, rfl⟩
  rw [← hSV] at HB0 ⊢
  have HSV := H_ hSV
  have HSI : Hid ((Tryz.prog.info? 65).map (·.size) = some SV.length) := H_ (by rw [hSV, stepV_len]; kernel_rfl)
  have HUS : Hid (∀ W, Calls Tryz.prog 91 #[.agg SV.toArray] W fun e w' => e = .returned (.bool (usedF s)) ∧ Keeps (fun _ => False) W w') := H_ fun W => by rw [hSV]; exact rused_any W s B d
  have HFI : Hid (∀ W, Calls Tryz.prog 92 #[.int .u64 s.bits] W fun e w' => e = .returned (.bool (finiteF s.bits)) ∧ w' = W) := H_ fun W => rfinite_any W s.bits hf.bits
  have HRT : Hid (∀ W, Calls Tryz.prog 93 #[.string s.text] W fun e w' => e = .returned (.bool (rightS s.text)) ∧ w' = W) := H_ fun W => rright_any W s.text hf.text
  have HRK : Hid (∀ W, Keeps (fun _ => False) w W → Calls Tryz.prog 94 #[.slice B s.keys.length d] W fun e w' => e = .returned (.bool (s.keys.all rightS)) ∧ w' = W) := H_ fun W hW =>
   rkeys_any W B _ d s.keys rfl (hk.keep hW (fun _ _ _ h => h)) (fun k hk => by have := size_le hk; have := hf.keys; omega) (by have := hf.many; omega)
  have HTW : Hid (s.keys.all rightS = true → ∀ W, Keeps (fun _ => False) w W → Calls Tryz.prog 95 #[.slice B s.keys.length d] W fun e w' => e = .returned (.bool (decide (¬ s.keys.Nodup))) ∧ Keeps (fun _ => False) W w') := H_ fun hr W hW =>
   rtwice_any W B _ d s.keys rfl hd (hk.keep hW (fun _ _ _ h => h)) (by have := hf.many; omega) (fun k hk => by have := size_le hk; have := hf.keys; omega) (fun k hk => List.all_eq_true.1 hr k hk)
  have HNK := H_ hf.many
  have HH := H_ h
  have HPO := H_ hP
  have HKR := H_ hk
  have HHD := H_ hd
  clear h hP hf hk hd hSV
  have HMM := H_ hm
  go_enter Tryz.func54, Tryz.ntmps54
  go_wp2_with (first
   | ((with_reducible show wpList _ _ _ (⟨some 9, _, _, _, _, _⟩ :: _) _ _); refine wpList_load_whole rfl 65 _ rfl _ rfl HB0.out.blk Tryz.underlying65 rfl HSI.out ?_)
   | (go_at_call 91; refine (HUS.out _).mono ?_; rintro e w2 ⟨rfl, hk2⟩; rw [HU.out]; have HB2 := H_ (HB0.out.stay hk2); obtain ⟨s0, s1, s2, s3, s4, s5⟩ := HB2.out.step HSV.out; clear hk2)
   | (go_at_call 92; refine (HFI.out _).mono ?_; rintro e w3 ⟨rfl, hw3⟩; subst w3; rw [HF.out])
   | (go_at_call 93; refine (HRT.out _).mono ?_; rintro e w3 ⟨rfl, hw3⟩; subst w3; rw [HT.out])
   | (go_at_call 94; refine (HRK.out _ HB2.out.keep).mono ?_; rintro e w3 ⟨rfl, hw3⟩; subst w3; rw [HK.out])
   | (go_at_call 95; refine (HTW.out HK.out _ HB2.out.keep).mono ?_; rintro e w4 ⟨rfl, hk4⟩; rw [HN.out]; have HB4 := H_ (HB2.out.stay hk4); obtain ⟨t0, t1, t2, t3, t4, t5⟩ := HB4.out.step HSV.out; clear hk4)
   )
  go_ret2
  unfold DoRPost
  rw [HD.out]
  exact ⟨rfl, HB2.out.keep⟩
 have e3 : (s.sort == 3) = false := beq_eq_false_iff_ne.2 a3
 clear hu h3 a3 ht
 have HSF := H_ hf
 have HB0 := H_ (Boxed.made w 65 (stepV s B d))
 obtain ⟨SV, hSV⟩ : ∃ SV, SV = stepV s B d := ⟨_, rfl⟩
 rw [← hSV] at HB0 ⊢
 have HSV := H_ hSV
 have HSI : Hid ((Tryz.prog.info? 65).map (·.size) = some SV.length) := H_ (by rw [hSV, stepV_len]; kernel_rfl)
 have HUS : Hid (∀ W, Calls Tryz.prog 91 #[.agg SV.toArray] W fun e w' => e = .returned (.bool (usedF s)) ∧ Keeps (fun _ => False) W w') := H_ fun W => by rw [hSV]; exact rused_any W s B d
 have HFI : Hid (∀ W, Calls Tryz.prog 92 #[.int .u64 s.bits] W fun e w' => e = .returned (.bool (finiteF s.bits)) ∧ w' = W) := H_ fun W => rfinite_any W s.bits hf.bits
 have HRT : Hid (∀ W, Calls Tryz.prog 93 #[.string s.text] W fun e w' => e = .returned (.bool (rightS s.text)) ∧ w' = W) := H_ fun W => rright_any W s.text hf.text
 have HRK : Hid (∀ W, Keeps (fun _ => False) w W → Calls Tryz.prog 94 #[.slice B s.keys.length d] W fun e w' => e = .returned (.bool (s.keys.all rightS)) ∧ w' = W) := H_ fun W hW =>
  rkeys_any W B _ d s.keys rfl (hk.keep hW (fun _ _ _ h => h)) (fun k hk => by have := size_le hk; have := hf.keys; omega) (by have := hf.many; omega)
 have HTW : Hid (s.keys.all rightS = true → ∀ W, Keeps (fun _ => False) w W → Calls Tryz.prog 95 #[.slice B s.keys.length d] W fun e w' => e = .returned (.bool (decide (¬ s.keys.Nodup))) ∧ Keeps (fun _ => False) W w') := H_ fun hr W hW =>
  rtwice_any W B _ d s.keys rfl hd (hk.keep hW (fun _ _ _ h => h)) (by have := hf.many; omega) (fun k hk => by have := size_le hk; have := hf.keys; omega) (fun k hk => List.all_eq_true.1 hr k hk)
 have HNK := H_ hf.many
 have HH := H_ h
 have HPO := H_ hP
 have HKR := H_ hk
 have HHD := H_ hd
 clear h hP hf hk hd hSV
 have HMM := H_ hm
 go_enter Tryz.func54, Tryz.ntmps54
 go_wp2_with (first
  | ((with_reducible show wpList _ _ _ (⟨some 9, _, _, _, _, _⟩ :: _) _ _); refine wpList_load_whole rfl 65 _ rfl _ rfl HB0.out.blk Tryz.underlying65 rfl HSI.out ?_)
  | (go_at_call 91; refine (HUS.out _).mono ?_; rintro e w2 ⟨rfl, hk2⟩; rw [HU.out]; have HB2 := H_ (HB0.out.stay hk2); obtain ⟨s0, s1, s2, s3, s4, s5⟩ := HB2.out.step HSV.out; clear hk2)
  | (go_at_call 92; refine (HFI.out _).mono ?_; rintro e w3 ⟨rfl, hw3⟩; subst w3; rw [HF.out])
  | (go_at_call 93; refine (HRT.out _).mono ?_; rintro e w3 ⟨rfl, hw3⟩; subst w3; rw [HT.out])
  | (go_at_call 94; refine (HRK.out _ HB2.out.keep).mono ?_; rintro e w3 ⟨rfl, hw3⟩; subst w3; rw [HK.out])
  | (go_at_call 95; refine (HTW.out HK.out _ HB2.out.keep).mono ?_; rintro e w4 ⟨rfl, hk4⟩; rw [HN.out]; have HB4 := H_ (HB2.out.stay hk4); obtain ⟨t0, t1, t2, t3, t4, t5⟩ := HB4.out.step HSV.out; clear hk4)
  )
 go_ret2
 unfold DoRPost
 rw [HD.out]
 exact ⟨rfl, HB2.out.keep⟩
theorem rdo_keys (w0 w : World) (A : Option Addr) (m c : Nat) (css : List (List Value)) (P : List JV) (h : RowR w0 w A m c css P) (hm : m ≤ 1048576) (hP : RowOk P) (s : StepV) (hf : StepFits s) (B : Option Addr) (d : Nat) (hk : Rd w B s.keys.length (s.keys.map .string)) (hd : s.keys.length ≤ d) (hu : usedF s = true) (h3 : s.sort = 3 → finiteF s.bits = true) (ht : rightS s.text = true) (hkk : s.keys.all rightS = false) :
  Calls Tryz.prog 54 #[.slice A m c, .agg (stepV s B d).toArray] w (DoRPost w0 w A m c P s) := by
 have HU := H_ hu
 have HT := H_ ht
 have HK := H_ hkk
 have HD : Hid (doF P s = .inl 100) := H_ (by unfold doF; rw [if_neg (by rw [hu]; decide), if_neg (fun e => by rw [h3 e.1] at e; exact absurd e.2 (by decide)), if_pos (.inr hkk)])
 by_cases a3 : s.sort = 3
 ·have e3 : (s.sort == 3) = true := by rw [a3]; rfl
  have HF := H_ (h3 a3)
  clear hu h3 a3 ht hkk
  have HSF := H_ hf
  have HB0 := H_ (Boxed.made w 65 (stepV s B d))
  obtain ⟨SV, hSV⟩ : ∃ SV, SV = stepV s B d := ⟨_, rfl⟩
  rw [← hSV] at HB0 ⊢
  have HSV := H_ hSV
  have HSI : Hid ((Tryz.prog.info? 65).map (·.size) = some SV.length) := H_ (by rw [hSV, stepV_len]; kernel_rfl)
  have HUS : Hid (∀ W, Calls Tryz.prog 91 #[.agg SV.toArray] W fun e w' => e = .returned (.bool (usedF s)) ∧ Keeps (fun _ => False) W w') := H_ fun W => by rw [hSV]; exact rused_any W s B d
  have HFI : Hid (∀ W, Calls Tryz.prog 92 #[.int .u64 s.bits] W fun e w' => e = .returned (.bool (finiteF s.bits)) ∧ w' = W) := H_ fun W => rfinite_any W s.bits hf.bits
  have HRT : Hid (∀ W, Calls Tryz.prog 93 #[.string s.text] W fun e w' => e = .returned (.bool (rightS s.text)) ∧ w' = W) := H_ fun W => rright_any W s.text hf.text
  have HRK : Hid (∀ W, Keeps (fun _ => False) w W → Calls Tryz.prog 94 #[.slice B s.keys.length d] W fun e w' => e = .returned (.bool (s.keys.all rightS)) ∧ w' = W) := H_ fun W hW =>
   rkeys_any W B _ d s.keys rfl (hk.keep hW (fun _ _ _ h => h)) (fun k hk => by have := size_le hk; have := hf.keys; omega) (by have := hf.many; omega)
  have HTW : Hid (s.keys.all rightS = true → ∀ W, Keeps (fun _ => False) w W → Calls Tryz.prog 95 #[.slice B s.keys.length d] W fun e w' => e = .returned (.bool (decide (¬ s.keys.Nodup))) ∧ Keeps (fun _ => False) W w') := H_ fun hr W hW =>
   rtwice_any W B _ d s.keys rfl hd (hk.keep hW (fun _ _ _ h => h)) (by have := hf.many; omega) (fun k hk => by have := size_le hk; have := hf.keys; omega) (fun k hk => List.all_eq_true.1 hr k hk)
  have HNK := H_ hf.many
  have HH := H_ h
  have HPO := H_ hP
  have HKR := H_ hk
  have HHD := H_ hd
  clear h hP hf hk hd hSV
  have HMM := H_ hm
  go_enter Tryz.func54, Tryz.ntmps54
  go_wp2_with (first
   | ((with_reducible show wpList _ _ _ (⟨some 9, _, _, _, _, _⟩ :: _) _ _); refine wpList_load_whole rfl 65 _ rfl _ rfl HB0.out.blk Tryz.underlying65 rfl HSI.out ?_)
   | (go_at_call 91; refine (HUS.out _).mono ?_; rintro e w2 ⟨rfl, hk2⟩; rw [HU.out]; have HB2 := H_ (HB0.out.stay hk2); obtain ⟨s0, s1, s2, s3, s4, s5⟩ := HB2.out.step HSV.out; clear hk2)
   | (go_at_call 92; refine (HFI.out _).mono ?_; rintro e w3 ⟨rfl, hw3⟩; subst w3; rw [HF.out])
   | (go_at_call 93; refine (HRT.out _).mono ?_; rintro e w3 ⟨rfl, hw3⟩; subst w3; rw [HT.out])
   | (go_at_call 94; refine (HRK.out _ HB2.out.keep).mono ?_; rintro e w3 ⟨rfl, hw3⟩; subst w3; rw [HK.out])
   | (go_at_call 95; refine (HTW.out HK.out _ HB2.out.keep).mono ?_; rintro e w4 ⟨rfl, hk4⟩; rw [HN.out]; have HB4 := H_ (HB2.out.stay hk4); obtain ⟨t0, t1, t2, t3, t4, t5⟩ := HB4.out.step HSV.out; clear hk4)
   )
  go_ret2
  unfold DoRPost
  rw [HD.out]
  exact ⟨rfl, HB2.out.keep⟩
 have e3 : (s.sort == 3) = false := beq_eq_false_iff_ne.2 a3
 clear hu h3 a3 ht hkk
 have HSF := H_ hf
 have HB0 := H_ (Boxed.made w 65 (stepV s B d))
 obtain ⟨SV, hSV⟩ : ∃ SV, SV = stepV s B d := ⟨_, rfl⟩
 rw [← hSV] at HB0 ⊢
 have HSV := H_ hSV
 have HSI : Hid ((Tryz.prog.info? 65).map (·.size) = some SV.length) := H_ (by rw [hSV, stepV_len]; kernel_rfl)
 have HUS : Hid (∀ W, Calls Tryz.prog 91 #[.agg SV.toArray] W fun e w' => e = .returned (.bool (usedF s)) ∧ Keeps (fun _ => False) W w') := H_ fun W => by rw [hSV]; exact rused_any W s B d
 have HFI : Hid (∀ W, Calls Tryz.prog 92 #[.int .u64 s.bits] W fun e w' => e = .returned (.bool (finiteF s.bits)) ∧ w' = W) := H_ fun W => rfinite_any W s.bits hf.bits
 have HRT : Hid (∀ W, Calls Tryz.prog 93 #[.string s.text] W fun e w' => e = .returned (.bool (rightS s.text)) ∧ w' = W) := H_ fun W => rright_any W s.text hf.text
 have HRK : Hid (∀ W, Keeps (fun _ => False) w W → Calls Tryz.prog 94 #[.slice B s.keys.length d] W fun e w' => e = .returned (.bool (s.keys.all rightS)) ∧ w' = W) := H_ fun W hW =>
  rkeys_any W B _ d s.keys rfl (hk.keep hW (fun _ _ _ h => h)) (fun k hk => by have := size_le hk; have := hf.keys; omega) (by have := hf.many; omega)
 have HTW : Hid (s.keys.all rightS = true → ∀ W, Keeps (fun _ => False) w W → Calls Tryz.prog 95 #[.slice B s.keys.length d] W fun e w' => e = .returned (.bool (decide (¬ s.keys.Nodup))) ∧ Keeps (fun _ => False) W w') := H_ fun hr W hW =>
  rtwice_any W B _ d s.keys rfl hd (hk.keep hW (fun _ _ _ h => h)) (by have := hf.many; omega) (fun k hk => by have := size_le hk; have := hf.keys; omega) (fun k hk => List.all_eq_true.1 hr k hk)
 have HNK := H_ hf.many
 have HH := H_ h
 have HPO := H_ hP
 have HKR := H_ hk
 have HHD := H_ hd
 clear h hP hf hk hd hSV
 have HMM := H_ hm
 go_enter Tryz.func54, Tryz.ntmps54
 go_wp2_with (first
  | ((with_reducible show wpList _ _ _ (⟨some 9, _, _, _, _, _⟩ :: _) _ _); refine wpList_load_whole rfl 65 _ rfl _ rfl HB0.out.blk Tryz.underlying65 rfl HSI.out ?_)
  | (go_at_call 91; refine (HUS.out _).mono ?_; rintro e w2 ⟨rfl, hk2⟩; rw [HU.out]; have HB2 := H_ (HB0.out.stay hk2); obtain ⟨s0, s1, s2, s3, s4, s5⟩ := HB2.out.step HSV.out; clear hk2)
  | (go_at_call 92; refine (HFI.out _).mono ?_; rintro e w3 ⟨rfl, hw3⟩; subst w3; rw [HF.out])
  | (go_at_call 93; refine (HRT.out _).mono ?_; rintro e w3 ⟨rfl, hw3⟩; subst w3; rw [HT.out])
  | (go_at_call 94; refine (HRK.out _ HB2.out.keep).mono ?_; rintro e w3 ⟨rfl, hw3⟩; subst w3; rw [HK.out])
  | (go_at_call 95; refine (HTW.out HK.out _ HB2.out.keep).mono ?_; rintro e w4 ⟨rfl, hk4⟩; rw [HN.out]; have HB4 := H_ (HB2.out.stay hk4); obtain ⟨t0, t1, t2, t3, t4, t5⟩ := HB4.out.step HSV.out; clear hk4)
  )
 go_ret2
 unfold DoRPost
 rw [HD.out]
 exact ⟨rfl, HB2.out.keep⟩
end Go.Proofs.YtdmcioghdindfaaGreatDoor
