/-
  WALKS: the book's New, Size, Append.
-/
import Derived.Test.YtknecjjdegngfaaDoorBookK
import Derived.Test.YtknecjjdegngfaaDoorTellW
import Derived.Maps.AppendAt
set_option linter.unusedSimpArgs false
namespace Go.Aff
open Go Go.RowKit
theorem own_keepA {w w' : World} {e : TypeId} {s n : Nat} {v : Value} {xs : List Value} (h : w.ownsRow 0 e s v n xs) (hk : Keeps (fun _ => False) w w') : w'.ownsRow 0 e s v n xs := hk.own h (fun _ _ h => h)
theorem own_le {w : World} {e : TypeId} {s n c : Nat} {A : Option Addr} {xs : List Value} (h : w.ownsRow 0 e s (.slice A n c) n xs) : n ≤ c := by
  rcases h.2 with ⟨hv, hn0⟩ | ⟨g, cap, cur, hv, _, _, hnc, _⟩
  · omega
  · injection hv with e1 e2 e3
    omega
theorem own_addr {w : World} {e : TypeId} {s n c : Nat} {ad : Addr} {xs : List Value} (h : w.ownsRow 0 e s (.slice (some ad) n c) n xs) : (Value.slice (some ad) n c).ownBlock = some ad.block := by
  rcases h.2 with ⟨hv, hn0⟩ | ⟨g, cap, cur, hv, _⟩
  · cases hv
  · injection hv with e1 e2 e3
    injection e1 with e1
    subst e1
    rfl
end Go.Aff
namespace Go.Proofs.YtknecjjdegngfaaDoor
open Go Go.RowKit Go.Sha Go.Aff Go.Book
theorem infoRows : (Tryd.prog.info? 22).map (fun i => (i.zero, i.size, i.bytes)) = some (some (.slice none 0 0), 1, 24) := by kernel_rfl
theorem BookAt.bytes {wr : World} {p : Nat} {u l : Value} {es : List (List Int)} {y : Int} (h : BookAt wr p u l es y) (y' : Int) : BookAt (wr.setCell ⟨p, 2, none⟩ (.int .i64 y')) p u l es y' := by
  have hap := h.apart
  obtain ⟨hb, ⟨vals, hu, hh⟩, hl⟩ := h
  have hk : Keeps (fun i => i = p) wr (wr.setCell ⟨p, 2, none⟩ (.int .i64 y')) := (Keeps.refl (fun i => i = p) wr).setCell (p := ⟨p, 2, none⟩) (.inl rfl) _
  refine ⟨?_, ⟨vals, hk.own hu (fun g hg e => hap.1 (e ▸ hg)), hh.keep hk (fun i e => .inl e)⟩, hk.own hl (fun g hg e => hap.2.1 (e ▸ hg))⟩
  have := hb.set_ 2 (.int .i64 y')
  simpa using this
set_option maxRecDepth 100000 in
theorem bnew_any (w : World) : Calls Tryd.prog 41 #[] w fun e w' => e = .returned (.pointer (some ⟨w.heap.size, 0, none⟩)) ∧ BookAt w' w.heap.size (.slice none 0 0) (.slice none 0 0) [] 0 ∧ Keeps (fun _ => False) w w' := by
  have h1 : BookAt (w.alloc (.cells #[.slice none 0 0, .slice none 0 0, .int .i64 0] 104)) w.heap.size (.slice none 0 0) (.slice none 0 0) [] 0 :=
    ⟨Blk.new w _ _, ⟨[], World.ownsRow_nil _ _ _ _, rfl, fun i bs h => by simp at h⟩, World.ownsRow_nil _ _ _ _⟩
  have H1 := Lib.hid h1
  clear h1
  go_enter Tryd.func41, Tryd.ntmps41
  go_wp2
  go_ret
  exact ⟨rfl, H1.out, (Keeps.refl _ w).alloc _⟩
set_option maxRecDepth 100000 in
theorem size_any (w : World) (p : Nat) (u l : Value) (es : List (List Int)) (y : Int) (h : BookAt w p u l es y) :
    Calls Tryd.prog 39 #[.pointer (some ⟨p, 0, none⟩)] w fun e w' => e = .returned (.int .i64 (es.length : Nat)) ∧ w' = w := by
  obtain ⟨A, c, B, d, rfl, rfl⟩ := h.form
  have e0 := h.1.cell 0
  simp only [List.getElem?_cons_zero] at e0
  obtain ⟨m, hm⟩ : ∃ m, m = es.length := ⟨_, rfl⟩
  rw [← hm] at e0 ⊢
  clear hm h
  go_enter Tryd.func39, Tryd.ntmps39
  go_wp2
  go_ret
  exact ⟨rfl, rfl⟩
def AppRel (w : World) (p : Nat) (u l : Value) (es : List (List Int)) (y : Int) (news : List (List Int)) (k : Nat) (wr : World) : Prop :=
  ∃ u' l', BookAt wr p u' l' (es ++ news.take k) y ∧ Keeps (FootB p u l) w wr ∧ (∀ g, u'.ownBlock = some g → u.ownBlock = some g ∨ w.heap.size ≤ g) ∧ (∀ g, l'.ownBlock = some g → l.ownBlock = some g ∨ w.heap.size ≤ g)
theorem take_sum (pss : List (List Int)) (k : Nat) (bs : List Int) (h : pss[k]? = some bs) : (pss.take (k + 1)).flatten.length = (pss.take k).flatten.length + bs.length := by
  rw [List.take_add_one, h]
  simp
set_option maxRecDepth 100000 in
set_option maxHeartbeats 8000000 in
theorem Append_ok (w : World) (hG : Glob w) (p : Nat) (u l : Value) (es : List (List Int)) (y : Int) (h : BookAt w p u l es y) (hfoot : ∀ i, FootB p u l i → 2 ≤ i)
    (E : Option Addr) (cE : Nat) (news : List (List Int)) (hr : RdPartsO (FootB p u l) w E news) (hbig : ∀ bs ∈ news, bs.length ≤ 1048576) (hy : 0 ≤ y) (hsum : y + news.flatten.length ≤ 16777216) (hcount : es.length + news.length ≤ 65536) :
    Calls Tryd.prog 33 #[.pointer (some ⟨p, 0, none⟩), .slice E news.length cE] w fun e w' => e = .returned (.tuple #[.int .i64 (es.length : Nat), .nilIface]) ∧ ∃ u' l', BookAt w' p u' l' (es ++ news) (y + (news.flatten.length : Nat)) ∧ Keeps (FootB p u l) w w' ∧
      (∀ g, u'.ownBlock = some g → u.ownBlock = some g ∨ w.heap.size ≤ g) ∧ (∀ g, l'.ownBlock = some g → l.ownBlock = some g ∨ w.heap.size ≤ g) := by
  obtain ⟨evals, hv, hvo, hparts⟩ := hr
  have hcells : Hid (∀ k, k < news.length → ∃ g o bs A' c', E = some ⟨g, o, none⟩ ∧ news[k]? = some bs ∧ (∀ wr, Keeps (FootB p u l) w wr → wr.cell? ⟨g, o + k, none⟩ = some (.slice A' bs.length c') ∧ Rd wr A' bs.length (vb bs)) ∧ IsBytes bs ∧ bs.length ≤ c' ∧ bs.length ≤ 1048576) := by
    intro k hlt
    obtain ⟨g, o, e, hc⟩ := hv.2 (by omega)
    obtain ⟨bs, hbs⟩ : ∃ bs, news[k]? = some bs := ⟨_, List.getElem?_eq_getElem hlt⟩
    obtain ⟨A', c', h1, h2, h3, h4, h5, h6⟩ := hparts k bs hbs
    refine ⟨g, o, bs, A', c', e, hbs, fun wr hk => ⟨?_, h2.keep hk h3⟩, h4, h5, hbig bs (List.mem_of_getElem? hbs)⟩
    obtain ⟨g', o', e', hc'⟩ := (hv.keep hk hvo).2 (by omega)
    rw [e] at e'
    injection e' with e'
    injection e' with e1 e2
    subst e1 e2
    exact (hc' k hlt).trans h1
  have hle : Hid (∀ k, ((news.take k).flatten.length : Int) ≤ (news.flatten.length : Int)) := Lib.hid fun k => by have := flatten_take_le news k; omega
  obtain ⟨A, c, B, d, rfl, rfl⟩ := h.form
  have hR0 : Hid (AppRel w p (.slice A es.length c) (.slice B es.length d) es y news 0 w) := Lib.hid ⟨_, _, by simpa using h, Keeps.refl _ _, fun g hg => .inl hg, fun g hg => .inl hg⟩
  have hfin : Hid (∀ wr, AppRel w p (.slice A es.length c) (.slice B es.length d) es y news news.length wr → ∃ u' l', BookAt wr p u' l' (es ++ news) y ∧ Keeps (FootB p (.slice A es.length c) (.slice B es.length d)) w wr ∧ (∀ g, u'.ownBlock = some g → (Value.slice A es.length c).ownBlock = some g ∨ w.heap.size ≤ g) ∧ (∀ g, l'.ownBlock = some g → (Value.slice B es.length d).ownBlock = some g ∨ w.heap.size ≤ g)) := Lib.hid fun wr ⟨u', l', h1, h2, h3, h4⟩ => by
    rw [List.take_length] at h1
    exact ⟨u', l', h1, h2, h3, h4⟩
  have e0 := h.1.cell 0
  have e2 := h.1.cell 2
  simp only [List.getElem?_cons_zero, List.getElem?_cons_succ] at e0 e2
  have HH := Lib.hid h
  have HFT := Lib.hid hfoot
  have HGG := Lib.hid hG
  obtain ⟨N, hN⟩ : ∃ N, N = news.length := ⟨_, rfl⟩
  have HN := Lib.hid hN
  obtain ⟨m, hm⟩ : ∃ m, m = es.length := ⟨_, rfl⟩
  have HM := Lib.hid hm
  obtain ⟨tot, htot⟩ : ∃ tot : Int, tot = (news.flatten.length : Int) := ⟨_, rfl⟩
  have HT := Lib.hid htot
  rw [← hN] at hcount hfin ⊢
  rw [← hm] at e0 hcount HH HFT hcells hR0 hfin ⊢
  rw [← htot] at hsum hle ⊢
  have ht0 : 0 ≤ tot := by omega
  clear h hv hvo hparts hbig hfoot hG hN hm htot
  go_enter Tryd.func33, Tryd.ntmps33
  go_wp2
  go_loop [6, 8, 21] (fun b _ i => ∃ (k : Nat) (x : Int), k ≤ N ∧ i = .int .i64 k ∧ b = .int .i64 x ∧ Hid (x = y + ((news.take k).flatten.length : Nat)) ∧ 0 ≤ x ∧ x ≤ 16777216) (fun _ _ i => N - (intOf i).toNat)
  case atStart => exact ⟨0, y, by omega, rfl, rfl, Lib.hid (by simp), by omega, by omega⟩
  case round =>
    obtain ⟨k, x, hk, rfl, rfl, HX, hx0, hx1⟩ := hrel
    by_cases hlt : k < N
    · obtain ⟨g, o, bs, A1, c1, hA, hbs, hcl0, _, hc1, hrb⟩ := hcells.out k (by have := HN.out; omega)
      subst hA
      have hcell := (hcl0 w (Keeps.refl _ _)).1
      clear hcl0
      have hs := take_sum news k bs hbs
      have hl1 := hle.out (k + 1)
      have hnx : Hid (x + (bs.length : Int) = y + ((news.take (k + 1)).flatten.length : Nat)) := Lib.hid (by rw [hs, HX.out]; omega)
      have hnb : x + (bs.length : Int) ≤ 16777216 := by have := hnx.out; omega
      obtain ⟨n, hn⟩ : ∃ n, n = bs.length := ⟨_, rfl⟩
      rw [← hn] at hnx hnb hcell hc1 hrb
      have wx : IntKind.i64.wrap (x + (n : Int)) = x + (n : Int) := IntWalk.i64_in _ (by omega)
      clear hs hl1 hbs hn
      go_wp2
      go_round
      case rel => exact ⟨k + 1, x + (n : Int), by omega, by go_num, rfl, hnx, by omega, by omega⟩
      case measure => simp [intOf]; omega
    · obtain rfl : k = N := by omega
      have hxt : x = y + tot := by have := HX.out; rw [this, HT.out, HN.out, List.take_length]
      subst hxt
      clear HX
      go_wp2
      go_loopw [11, 55] (fun _ i wr => ∃ k' : Nat, k' ≤ k ∧ i = .int .i64 k' ∧ Hid (AppRel w p (.slice A m c) (.slice B m d) es y news k' wr)) (fun _ i _ => k - (intOf i).toNat)
      case atStart => exact ⟨0, by omega, rfl, hR0⟩
      case round =>
        obtain ⟨k', hk', rfl, HRL⟩ := hrel
        by_cases hlt' : k' < k
        · obtain ⟨u', l', hbk, hkp, hun, hln⟩ := HRL.out
          obtain ⟨g, o, bs, Ae, ce, hA, hbs, hcl0, hby, hce, hrb⟩ := hcells.out k' (by have := HN.out; omega)
          subst hA
          have hcell := (hcl0 wr hkp).1
          have hesl : (es ++ news.take k').length = m + k' := by rw [List.length_append, List.length_take, ← HM.out]; have := HN.out; omega
          obtain ⟨A1, c1, B1, d1, hu', hl'⟩ := hbk.form
          rw [hesl] at hu' hl'
          subst hu' hl'
          have hap := hbk.apart
          have hlt2 := hbk.lt
          have hstep := @BookAt.step wr
          obtain ⟨hbb, ⟨vals, hou, hhd⟩, hol⟩ := id hbk
          rw [hesl] at hou hol
          obtain ⟨mk, hmk⟩ : ∃ mk, mk = m + k' := ⟨_, rfl⟩
          have HMK := Lib.hid hmk
          obtain ⟨n, hn⟩ : ∃ n, n = bs.length := ⟨_, rfl⟩
          obtain ⟨DG, hDG⟩ : ∃ DG, DG = dg ((es ++ news.take k').map leafF) := ⟨_, rfl⟩
          obtain ⟨DV, hDV⟩ : ∃ DV, DV = vb (leafF bs) := ⟨_, rfl⟩
          have hDVl : DV.length = 32 := by rw [hDV, vb_length]; exact sumF_length _ _ _
          have HD1 : Hid (∀ u ∈ DV, u.oneCell' = true) := Lib.hid (by rw [hDV]; exact vb_one _)
          have HFO : Hid (∀ cs : Array Value, cs.size = 32 → List.foldl (fun (cs : Array Value) (x : Value × Nat) => cs.setIfInBounds x.snd x.fst) cs DV.zipIdx = DV.toArray) := Lib.hid fun cs h => fold_zip0 DV cs (by rw [hDVl]; exact h)
          rw [← hmk] at hbk hbb hou hol hap hlt2 hhd hun hln
          rw [← hDG] at hol
          have HBK := Lib.hid hbb
          have HNF : Hid (¬ ((Value.slice A1 mk c1).ownBlock = some p ∨ (Value.slice B1 mk d1).ownBlock = some p)) := Lib.hid (fun hx => hx.elim hap.1 hap.2.1)
          have HC0 : Hid (∀ W, Keeps (fun i => (Value.slice A1 mk c1).ownBlock = some i ∨ (Value.slice B1 mk d1).ownBlock = some i) wr W → W.cell? ⟨p, 0, none⟩ = some (.slice A1 mk c1)) := Lib.hid fun W hW => by rw [(hW.blk HBK.out HNF.out).cell]; rfl
          have HC1 : Hid (∀ W, Keeps (fun i => (Value.slice A1 mk c1).ownBlock = some i ∨ (Value.slice B1 mk d1).ownBlock = some i) wr W → W.cell? ⟨p, 1, none⟩ = some (.slice B1 mk d1)) := Lib.hid fun W hW => by rw [(hW.blk HBK.out HNF.out).cell]; rfl
          have hsub : ∀ i, (Value.slice A1 mk c1).ownBlock = some i ∨ (Value.slice B1 mk d1).ownBlock = some i → FootB p (.slice A1 mk c1) (.slice B1 mk d1) i := fun i hi => hi.elim (fun x => .inr (.inl x)) (fun x => .inr (.inr x))
          have hfo0 : ∀ i, FootB p (.slice A1 mk c1) (.slice B1 mk d1) i → FootB p (.slice A m c) (.slice B m d) i ∨ w.heap.size ≤ i := fun i hi => by
            rcases hi with hi | hi | hi
            · exact .inl (.inl hi)
            · rcases hun i hi with h9 | h9
              · exact .inl (.inr (.inl h9))
              · exact .inr h9
            · rcases hln i hi with h9 | h9
              · exact .inl (.inr (.inr h9))
              · exact .inr h9
          have hkA : ∀ W, Keeps (fun i => (Value.slice A1 mk c1).ownBlock = some i ∨ (Value.slice B1 mk d1).ownBlock = some i) wr W → Keeps (FootB p (.slice A m c) (.slice B m d)) w W := fun W hW => hkp.trans hW (fun i hi hf => (hfo0 i (hsub i hf)).resolve_right (by omega))
          have HCL : Hid (∀ W, Keeps (fun i => (Value.slice A1 mk c1).ownBlock = some i ∨ (Value.slice B1 mk d1).ownBlock = some i) wr W → Calls Tryd.prog 63 #[.slice Ae n ce] W fun e w' => ∃ A c, e = .returned (.slice A n c) ∧ w'.ownsRow 0 5 1 (.slice A n c) n (vb bs) ∧ n ≤ c ∧ Keeps (fun _ => False) W w' ∧ ∀ g, (Value.slice A n c).ownBlock = some g → W.heap.size ≤ g) := Lib.hid fun W hW => by
            have hr9 := (hcl0 W (hkA W hW)).2
            have hcl := clone_any W Ae ce bs hr9 (by omega)
            rw [hn]
            exact hcl.mono fun e w' ⟨A, c, q1, q2, q3, q4⟩ => ⟨A, c, q1, q2, own_le q2, q3, q4⟩
          have HLF : Hid (∀ W, Keeps (fun i => (Value.slice A1 mk c1).ownBlock = some i ∨ (Value.slice B1 mk d1).ownBlock = some i) wr W → Calls Tryd.prog 11 #[.slice Ae n ce] W fun e w' => e = .returned (.agg DV.toArray) ∧ Keeps (fun _ => False) W w') := Lib.hid fun W hW => by
            rw [hDV]
            exact leaf_any W (HGG.out.keep (hkA W hW) HFT.out) Ae n ce bs hn.symm (by rw [hn]; exact (hcl0 W (hkA W hW)).2) hby (by omega) (by omega)
          have HOU := Lib.hid hou
          have HOL : Hid (∀ W, Keeps (fun i => (Value.slice A1 mk c1).ownBlock = some i) wr W → W.ownsRow 0 24 32 (.slice B1 mk d1) mk DG) := Lib.hid fun W hW => hW.own hol (fun g hg hf => hap.2.2 g hf hg)
          have HKW := Lib.hid hkp
          have HFU := Lib.hid (show (∀ g, (Value.slice A1 mk c1).ownBlock = some g → (Value.slice A m c).ownBlock = some g ∨ w.heap.size ≤ g) ∧ (∀ g, (Value.slice B1 mk d1).ownBlock = some g → (Value.slice B m d).ownBlock = some g ∨ w.heap.size ≤ g) from ⟨hun, hln⟩)
          have HCL0 := Lib.hid hcl0
          have HHD := Lib.hid hhd
          have HBKA := Lib.hid hbk
          have HAP := Lib.hid hap
          have HLT2 := Lib.hid hlt2
          have HKA := Lib.hid hkA
          have HFO0 := Lib.hid hfo0
          have HBY := Lib.hid hby
          have hesl' : Hid ((es ++ news.take k').length = mk) := Lib.hid (by rw [hesl, hmk])
          have HBS : Hid (es ++ news.take (k' + 1) = es ++ news.take k' ++ [bs]) := Lib.hid (by rw [List.take_add_one, hbs, List.append_assoc]; rfl)
          have HNN := Lib.hid hn
          have HDGG := Lib.hid hDG
          have HDVV := Lib.hid hDV
          have hmk2 : mk ≤ 65535 := by omega
          have hnb : n ≤ 1048576 := by omega
          rw [← hn] at hcell hce
          clear hstep hcl0 hhd hbk hbb hou hol hap hlt2 hkA hfo0 hby hn hDG hDV hesl hmk hun hln hkp hbs hsub hrb
          go_wp2
          refine wp_region_tail (S := Keeps (fun i => (Value.slice A1 mk c1).ownBlock = some i ∨ (Value.slice B1 mk d1).ownBlock = some i) wr) 18 (by kernel_rfl) (Keeps.refl _ _).drew (fun hHeld => ?_)
          refine wpAnyT_pure (i := 0) (oi := ⟨some 59, _, _, _, _, _⟩) (v := ?_) rfl (by kernel_rfl) (by kernel_rfl) (by kernel_rfl) (fun _ _ _ h => h) (Or.inl ⟨by rfl, ?_⟩) ?_
          rotate_left
          · intro w' hSw
            go_simp
            first | done | rfl
          try simp only [Act.put, List.setIfInBounds_toArray, List.set_cons_zero, List.set_cons_succ]
          refine wpAnyT_pure (i := 1) (oi := ⟨some 60, _, _, _, _, _⟩) (v := ?_) rfl (by kernel_rfl) (by kernel_rfl) (by kernel_rfl) (fun _ _ _ h => h) (Or.inl ⟨by rfl, ?_⟩) ?_
          rotate_left
          · intro w' hSw
            go_simp
            first | done | rfl
          try simp only [Act.put, List.setIfInBounds_toArray, List.set_cons_zero, List.set_cons_succ]
          refine wpAnyT_pure (i := 2) (oi := ⟨some 61, _, _, _, _, _⟩) (v := ?_) rfl (by kernel_rfl) (by kernel_rfl) (by kernel_rfl) (fun _ _ _ h => h) (Or.inl ⟨by rfl, ?_⟩) ?_
          rotate_left
          · intro w' hSw
            go_simp
            first | done | rfl
          try simp only [Act.put, List.setIfInBounds_toArray, List.set_cons_zero, List.set_cons_succ]
          refine wpAnyT_take [3] (i := 3) (oi := ⟨some 62, _, _, _, _, _⟩) (v := ?_) rfl (by kernel_rfl) (by kernel_rfl) (by kernel_rfl) (by kernel_rfl) (by kernel_rfl) (fun _ _ _ h => h) (Or.inl ⟨by rfl, ?_⟩) hHeld ?_
          rotate_left
          · intro w' hSw
            go_simp
            first | done | rfl
          try simp only [Act.put, List.setIfInBounds_toArray, List.set_cons_zero, List.set_cons_succ]
          refine wpAnyT_take [4] (i := 4) (oi := ⟨some 63, _, _, _, _, _⟩) (v := ?_) rfl (by kernel_rfl) (by kernel_rfl) (by kernel_rfl) (by kernel_rfl) (by kernel_rfl) (fun _ _ _ h => h) (Or.inl ⟨by rfl, ?_⟩) hHeld ?_
          rotate_left
          · intro w' hSw
            go_simp
            first | done | rfl
          try simp only [Act.put, List.setIfInBounds_toArray, List.set_cons_zero, List.set_cons_succ]
          refine wpAnyT_take [5] (i := 5) (oi := ⟨some 64, _, _, _, _, _⟩) (v := ?_) rfl (by kernel_rfl) (by kernel_rfl) (by kernel_rfl) (by kernel_rfl) (by kernel_rfl) (fun _ _ _ h => h) (Or.inl ⟨by rfl, ?_⟩) hHeld ?_
          rotate_left
          · intro w' hSw
            have c0 := HC0.out w' hSw
            go_simp
            first | done | rfl
          try simp only [Act.put, List.setIfInBounds_toArray, List.set_cons_zero, List.set_cons_succ]
          refine wpAnyT_pure (i := 6) (oi := ⟨some 65, _, _, _, _, _⟩) (v := ?_) rfl (by kernel_rfl) (by kernel_rfl) (by kernel_rfl) (fun _ _ _ h => h) (Or.inl ⟨by rfl, ?_⟩) ?_
          rotate_left
          · intro w' hSw
            go_simp
            first | done | rfl
          try simp only [Act.put, List.setIfInBounds_toArray, List.set_cons_zero, List.set_cons_succ]
          refine wpAnyT_pure (i := 10) (oi := ⟨some 69, _, _, _, _, _⟩) (v := ?_) rfl (by kernel_rfl) (by kernel_rfl) (by kernel_rfl) (fun _ _ _ h => h) (Or.inl ⟨by rfl, ?_⟩) ?_
          rotate_left
          · intro w' hSw
            go_simp
            first | done | rfl
          try simp only [Act.put, List.setIfInBounds_toArray, List.set_cons_zero, List.set_cons_succ]
          refine wpAnyT_take [11, 12, 13] (i := 11) (oi := ⟨some 70, _, _, _, _, _⟩) (v := ?_) rfl (by kernel_rfl) (by kernel_rfl) (by kernel_rfl) (by kernel_rfl) (by kernel_rfl) (fun _ _ _ h => h) (Or.inl ⟨by rfl, ?_⟩) hHeld ?_
          rotate_left
          · intro w' hSw
            go_simp
            first | done | rfl
          try simp only [Act.put, List.setIfInBounds_toArray, List.set_cons_zero, List.set_cons_succ]
          refine wpAnyT_take [12, 13] (i := 12) (oi := ⟨some 71, _, _, _, _, _⟩) (v := ?_) rfl (by kernel_rfl) (by kernel_rfl) (by kernel_rfl) (by kernel_rfl) (by kernel_rfl) (fun _ _ _ h => h) (Or.inl ⟨by rfl, ?_⟩) hHeld ?_
          rotate_left
          · intro w' hSw
            go_simp
            first | done | rfl
          try simp only [Act.put, List.setIfInBounds_toArray, List.set_cons_zero, List.set_cons_succ]
          refine wpAnyT_take [13] (i := 13) (oi := ⟨some 72, _, _, _, _, _⟩) (v := ?_) rfl (by kernel_rfl) (by kernel_rfl) (by kernel_rfl) (by kernel_rfl) (by kernel_rfl) (fun _ _ _ h => h) (Or.inl ⟨by rfl, ?_⟩) hHeld ?_
          rotate_left
          · intro w' hSw
            have c1' := HC1.out w' hSw
            go_simp
            first | done | rfl
          try simp only [Act.put, List.setIfInBounds_toArray, List.set_cons_zero, List.set_cons_succ]
          refine wpAnyT_pure (i := 14) (oi := ⟨some 73, _, _, _, _, _⟩) (v := ?_) rfl (by kernel_rfl) (by kernel_rfl) (by kernel_rfl) (fun _ _ _ h => h) (Or.inl ⟨by rfl, ?_⟩) ?_
          rotate_left
          · intro w' hSw
            go_simp
            first | done | rfl
          try simp only [Act.put, List.setIfInBounds_toArray, List.set_cons_zero, List.set_cons_succ]
          refine wpAnyT_step (i := 7) (o := ⟨some 66, _, _, _, _, _⟩) (by kernel_rfl) rfl (fun K hK => ?_)
          go_simp
          refine (HCL.out _ hHeld).mono ?_
          rintro e v1 ⟨A3, c3, rfl, ho3, hcc3, hk3, hf3⟩
          have hkv1 : Keeps (fun _ => False) wr v1 := (Keeps.refl _ _).drew.trans hk3 (fun _ _ h => h)
          have hq1 := hHeld.trans hk3 (fun _ _ h => h.elim)
          refine hK.out _ _ hq1 (fun hHeld => ?_)
          clear hK K
          try simp only [Act.put, List.setIfInBounds_toArray, List.set_cons_zero, List.set_cons_succ]
          refine wpAnyT_step (i := 8) (o := ⟨some 67, _, _, _, _, _⟩) (by kernel_rfl) rfl (fun K hK => ?_)
          go_simp
          refine hK.out _ _ (hHeld.alloc _) (fun hHeld => ?_)
          clear hK K
          try simp only [Act.put, List.setIfInBounds_toArray, List.set_cons_zero, List.set_cons_succ]
          refine wpAnyT_step (i := 9) (o := ⟨some 68, _, _, _, _, _⟩) (by kernel_rfl) rfl (fun K hK => ?_)
          refine step_append_own rfl (.tmp 64) (.tmp 67) 26 rfl 22 (.slice none 0 0) 1 24 Tryd.underlying26 infoRows rfl (by decide) A1 mk c1 vals rfl (own_keepA HOU.out (hkv1.alloc _)) ⟨v1.heap.size, 0, none⟩ 1 1 [Value.slice A3 n c3] rfl rfl (cell_one_new v1 _ _) (by intro x hx; rw [List.mem_singleton.1 hx]; rfl) (by simp only [maxLen]; omega) (by omega) ?_
          intro A5 c5 v2 hown5 hg5 hb5
          have hq2 := hHeld.grown hg5 (fun g e => .inl (.inl e))
          have hqA2 : Keeps (fun i => (Value.slice A1 mk c1).ownBlock = some i) wr v2 := ((hkv1.alloc _).mono (fun _ _ h => h.elim)).grown hg5 (fun g e => .inl e)
          refine hK.out _ _ hq2 (fun hHeld => ?_)
          clear hK K
          try simp only [Act.put, List.setIfInBounds_toArray, List.set_cons_zero, List.set_cons_succ]
          refine wpAnyT_step (i := 15) (o := ⟨some 74, _, _, _, _, _⟩) (by kernel_rfl) rfl (fun K hK => ?_)
          go_simp
          refine (HLF.out _ hHeld).mono ?_
          rintro e v3 ⟨rfl, hk6⟩
          have hq3 := hHeld.trans hk6 (fun _ _ h => h.elim)
          refine hK.out _ _ hq3 (fun hHeld => ?_)
          clear hK K
          try simp only [Act.put, List.setIfInBounds_toArray, List.set_cons_zero, List.set_cons_succ]
          refine wpAnyT_step (i := 16) (o := ⟨some 75, _, _, _, _, _⟩) (by kernel_rfl) rfl (fun K hK => ?_)
          go_simp
          rw [HFO.out _ rfl]
          have hqA := (hqA2.trans hk6 (fun _ _ h => h.elim)).alloc (.cells DV.toArray 24)
          refine hK.out _ _ (hHeld.alloc _) (fun hHeld => ?_)
          clear hK K
          try simp only [Act.put, List.setIfInBounds_toArray, List.set_cons_zero, List.set_cons_succ]
          refine wpAnyT_step (i := 17) (o := ⟨some 76, _, _, _, _, _⟩) (by kernel_rfl) rfl (fun K hK => ?_)
          refine step_append_own rfl (.tmp 72) (.tmp 75) 36 rfl 24 _ 32 32 Tryd.underlying36 infoD rfl (by decide) B1 mk d1 DG rfl (HOL.out _ hqA) ⟨v3.heap.size, 0, none⟩ 1 1 DV rfl (by rw [hDVl]) (fun j x hx => by rw [add_at, Nat.zero_add, (Blk.new v3 24 DV).cell]; exact hx) HD1.out (by simp only [maxLen]; omega) (by omega) ?_
          intro A6 c6 v4 hown6 hg6 hb6
          have hq4 := hHeld.grown hg6 (fun g e => .inl (.inr e))
          refine hK.out _ _ hq4 (fun hHeld => ?_)
          clear hK K
          try simp only [Act.put, List.setIfInBounds_toArray, List.set_cons_zero, List.set_cons_succ]
          refine wpAnyT_tail (i := 18) (o := ⟨some 77, _, _, _, _, _⟩) (by kernel_rfl) (by kernel_rfl) rfl (fun K hK => ?_)
          go_simp
          refine hK.out _ _ ?_
          clear hK K
          try simp only [Act.put, List.setIfInBounds_toArray, List.set_cons_zero, List.set_cons_succ]
          refine wpAnyT_tail (i := 19) (o := ⟨some 78, _, _, _, _, _⟩) (by kernel_rfl) (by kernel_rfl) rfl (fun K hK => ?_)
          go_simp
          refine hK.out _ _ ?_
          clear hK K
          try simp only [Act.put, List.setIfInBounds_toArray, List.set_cons_zero, List.set_cons_succ]
          refine wpAnyT_tail (i := 20) (o := ⟨none, _, _, _, _, _⟩) (by kernel_rfl) (by kernel_rfl) rfl (fun K hK => ?_)
          have hB4 := hq4.blk HBK.out HNF.out
          have e0 := hB4.cell 0
          have f0 := hB4.frozen 0
          simp only [List.getElem?_cons_zero] at e0
          go_simp
          refine hK.out _ _ ?_
          clear hK K
          try simp only [Act.put, List.setIfInBounds_toArray, List.set_cons_zero, List.set_cons_succ]
          refine wpAnyT_tail (i := 21) (o := ⟨some 79, _, _, _, _, _⟩) (by kernel_rfl) (by kernel_rfl) rfl (fun K hK => ?_)
          go_simp
          refine hK.out _ _ ?_
          clear hK K
          try simp only [Act.put, List.setIfInBounds_toArray, List.set_cons_zero, List.set_cons_succ]
          refine wpAnyT_tail (i := 22) (o := ⟨some 80, _, _, _, _, _⟩) (by kernel_rfl) (by kernel_rfl) rfl (fun K hK => ?_)
          go_simp
          refine hK.out _ _ ?_
          clear hK K
          try simp only [Act.put, List.setIfInBounds_toArray, List.set_cons_zero, List.set_cons_succ]
          refine wpAnyT_tail (i := 23) (o := ⟨none, _, _, _, _, _⟩) (by kernel_rfl) (by kernel_rfl) rfl (fun K hK => ?_)
          have hB5 := hB4.set_ 0 (.slice A5 (mk + 1) c5)
          have e1 := hB5.cell 1
          have f1 := hB5.frozen 1
          simp only [List.set_cons_zero, List.getElem?_cons_succ, List.getElem?_cons_zero] at e1
          go_simp
          refine hK.out _ _ ?_
          clear hK K
          try simp only [Act.put, List.setIfInBounds_toArray, List.set_cons_zero, List.set_cons_succ]
          refine wpAnyT_done (by kernel_rfl) ?_
          have hk14 : Keeps (fun i => (Value.slice A1 mk c1).ownBlock = some i ∨ (Value.slice B1 mk d1).ownBlock = some i) v1 v4 := ((((Keeps.refl _ v1).alloc _).grown hg5 (fun g e => .inl (.inl e))).trans hk6 (fun _ _ h => h.elim)).alloc _ |>.grown hg6 (fun g e => .inl (.inr e))
          have hs1 : wr.heap.size ≤ v1.heap.size := hkv1.size
          have hs2 : v1.heap.size + 1 ≤ v2.heap.size := by have := hg5.size; simpa using this
          have hs3 : v2.heap.size ≤ v3.heap.size := hk6.size
          have hcn : ∀ ad, A3 = some ad → wr.heap.size ≤ ad.block ∧ ad.block < v1.heap.size := fun ad he => by
            subst he
            have h9 := own_addr ho3
            exact ⟨hf3 _ h9, own_lt ho3 h9⟩
          have hrc : Rd v4 A3 n (vb bs) := (Rd.of_own ho3).keep hk14 (fun hn ad he hf => by
            have h9 := (hcn ad he).1
            rcases hf with hf | hf
            · have := HLT2.out _ (.inr (.inl hf)); omega
            · have := HLT2.out _ (.inr (.inr hf)); omega)
          have hk24 : Keeps (fun i => (Value.slice B1 mk d1).ownBlock = some i) v2 v4 := ((Keeps.refl _ v2).trans hk6 (fun _ _ h => h.elim)).alloc _ |>.grown hg6 (fun g e => .inl e)
          have hun5 : ∀ g, (Value.slice A5 (mk + 1) c5).ownBlock = some g → (Value.slice A1 mk c1).ownBlock = some g ∨ v1.heap.size ≤ g := fun g hg => by
            rcases hb5 with h9 | h9
            · exact .inl (h9 ▸ hg)
            · rw [h9] at hg; injection hg with hg; exact .inr (by rw [← hg]; simp)
          have hln6 : ∀ g, (Value.slice A6 (mk + 1) c6).ownBlock = some g → (Value.slice B1 mk d1).ownBlock = some g ∨ v1.heap.size ≤ g := fun g hg => by
            rcases hb6 with h9 | h9
            · exact .inl (h9 ▸ hg)
            · rw [h9] at hg; injection hg with hg; exact .inr (by rw [← hg]; simp; omega)
          have hU4 := hk24.own hown5 (fun g hg hf => by
            rcases hun5 g hg with h9 | h9
            · exact HAP.out.2.2 g h9 hf
            · have := HLT2.out _ (.inr (.inr hf)); omega)
          have hnew := BookAt.step HBKA.out HHD.out (bs := bs) (Ac := A3) (cc := c3) (u' := .slice A5 (mk + 1) c5) (l' := .slice A6 (mk + 1) c6) HBY.out (by rw [← HNN.out]; omega) (by rw [← HNN.out]; exact hcc3) hkv1 (by rw [← HNN.out]; exact hrc) hcn (by rw [hesl'.out, ← HNN.out]; exact hU4) (by rw [hesl'.out, ← HDGG.out, ← HDVV.out]; exact hown6) hq4 hun5 hln6
          have HNEW : Hid (AppRel w p (.slice A m c) (.slice B m d) es y news (k' + 1) ((v4.setCell ⟨p, 0, none⟩ (.slice A5 (mk + 1) c5)).setCell ⟨p, 1, none⟩ (.slice A6 (mk + 1) c6))) := Lib.hid (by
            refine ⟨_, _, by rw [HBS.out]; exact hnew, ((HKA.out v4 hq4).setCell (p := ⟨p, 0, none⟩) (.inl (.inl rfl)) _).setCell (p := ⟨p, 1, none⟩) (.inl (.inl rfl)) _, ?_, ?_⟩
            · intro g hg
              rcases hun5 g hg with h9 | h9
              · obtain ⟨u9, l9, _, hkp9, hun9, _⟩ := HRL.out
                exact (HFU.out.1 g h9)
              · exact .inr (Nat.le_trans (HKW.out.size) (Nat.le_trans hs1 h9))
            · intro g hg
              rcases hln6 g hg with h9 | h9
              · exact (HFU.out.2 g h9)
              · exact .inr (Nat.le_trans (HKW.out.size) (Nat.le_trans hs1 h9)))
          clear hnew hU4 hln6 hun5 hk24 hrc hcn hk14 hown5 hown6 hg5 hg6 hb5 hb6 ho3 hf3
          go_wp2
          go_roundw
          case rel => exact ⟨k' + 1, by omega, by go_num, HNEW⟩
          case measure => simp [intOf]; omega
        · obtain rfl : k' = k := by omega
          have hf := hfin.out wr HRL.out
          obtain ⟨u9, l9, hbk9, hkp9, hun9, hln9⟩ := hf
          have c2 := hbk9.1.cell 2
          have f2 := hbk9.1.frozen 2
          simp only [List.getElem?_cons_zero, List.getElem?_cons_succ] at c2
          have HB9 := Lib.hid (hbk9.bytes (y + tot))
          have HK9 := Lib.hid hkp9
          have HU9 := Lib.hid hun9
          have HL9 := Lib.hid hln9
          clear hbk9 hkp9 hun9 hln9
          go_wp2
          go_ret2
          exact ⟨rfl, u9, l9, HB9.out, HK9.out.setCell (p := ⟨p, 2, none⟩) (.inl (.inl rfl)) _, HU9.out, HL9.out⟩
end Go.Proofs.YtknecjjdegngfaaDoor
