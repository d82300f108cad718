/- Texts. -/
import Derived.ChangeSame
import Derived.Carry
import Derived.ReadAgain
import Derived.OpenShut
import Derived.ChangeSlices
import Derived.WideShapes
import Derived.SizedLaws
import Derived.Deep.Matrix
import Derived.Test.YtplleficmkfniaaGreatDoorS03
import Derived.Laws.Cover3
import Derived.Lib.SlBytesConst
set_option linter.unusedSimpArgs false
set_option maxRecDepth 100000
set_option maxHeartbeats 4000000
namespace Go.Aff
open Go Go.RowKit Go.ChangeShapes Go.WideShapes
section
variable {H : Type} {enc : TypeId × Value → H} {P : Program}
theorem trodAll_stays (hl : laidOutB P = true) {W W' : World} {sp : Nat → Bool} : ∀ {ts : List TypeId} {vs : List Value} {ds : List (DataW H)} {ps : List MemPlace}, (∀ t ∈ ts, P.readableRec t = true ∧ t < P.types.size) →
  DataW.TrodAll enc P W 0 (fun _ => true) true ts vs ds ps → (∀ p ∈ ps, W.sameAt W' p) → (∀ p ∈ ps, sp p.block = true) → DataW.TrodAll enc P W' 0 sp true ts vs ds ps
 | [], [], [], _, _, h, _, _ => h
 | t :: ts, v :: vs, d :: ds, ps, ht, h, hs, hp => by
  obtain ⟨p, q, h1, h2, rfl⟩ := h
  exact ⟨p, q, WideElems.Trod_stays hl (ht t (by simp)).1 (ht t (by simp)).2 h1 (fun x hx => hs x (by simp [hx])) (fun x hx => hp x (by simp [hx])),
   trodAll_stays hl (fun u hu => ht u (by simp [hu])) h2 (fun x hx => hs x (by simp [hx])) (fun x hx => hp x (by simp [hx])), rfl⟩
 | [], _ :: _, _, _, _, h, _, _ => h.elim
 | [], [], _ :: _, _, _, h, _, _ => h.elim
 | _ :: _, [], _, _, _, h, _, _ => h.elim
 | _ :: _, _ :: _, [], _, _, h, _, _ => h.elim
theorem law_post {f : Func} {s : ChangeSpec} {apart fresh handsOn again : Bool} {W W' : World} {args : Array Value} {ds gs : List (DataW H)} {before : List MemPlace} {tb : TypeId}
  (hl : laidOutB P = true) (ht : ∀ t ∈ f.params.toList, P.readableRec t = true ∧ t < P.types.size) (hv : s.vars = []) (hrt : f.resultTypes = #[tb]) (htb : P.underlying tb = some .bool)
  (hfn : (s.fn H ds).results = [.lit (.bool true)] ∧ (s.fn H ds).args = ds ∧ (s.fn H ds).vars = [])
  (hW : DataW.Whole enc P f.params.toList s.vars apart W args.toList ds gs before) (hk : Keeps (fun _ => False) W W') : s.post enc P f apart fresh handsOn again W args (.bool true) W' := by
 have hW0 := hW
 obtain ⟨pa, pv, hA, hV, hps, hz, hn⟩ := hW
 rw [hv] at hV
 obtain ⟨rfl, rfl⟩ := trodVars_none hV
 have hb : Below W.heap.size W W' := hk.to_below (fun _ _ h => h)
 have hlt : ∀ p ∈ before, p.block < W.heap.size := fun p hp => hW0.lt p hp
 have hsame : ∀ p ∈ before, W.sameAt W' p := fun p hp => hb.same (hlt p hp)
 rw [List.append_nil] at hps
 subst hps
 have hold : ∀ p ∈ before, (fun b => decide (b < W.heap.size)) p.block = true := fun p hp => by simpa using hlt p hp
 have hres : ∀ (b : Nat) (sp : Nat → Bool) (hd : Bool), DataW.TrodAll enc P W' b sp hd f.resultTypes.toList ((Value.bool true).resultList f.resultTypes.size) (s.fn H (ds ++ [])).results [] := by
  intro b sp hd
  rw [List.append_nil, hfn.1, hrt]
  exact trodAll_cons_mk (shut_bool htb true) trodAll_mk0
 have hargs : ∀ sp : Nat → Bool, (∀ p ∈ before, sp p.block = true) → DataW.TrodAll enc P W' 0 sp true f.params.toList args.toList (s.fn H (ds ++ [])).args before := by
  intro sp hsp
  rw [List.append_nil, hfn.2.1]
  exact trodAll_stays hl ht hA hsame hsp
 have hvars : ∀ sp : Nat → Bool, DataW.TrodVars enc P W' sp s.vars (s.fn H (ds ++ [])).vars [] := by
  intro sp
  rw [List.append_nil, hfn.2.2, hv]
  rfl
 refine ⟨ds, [], before, [], before, [], hW0, hres _ _ _, hargs _ hold, hvars _, hb.frame _, fun _ => ?_⟩
 refine ⟨?_, _, _, ([] ++ before) ++ [], ⟨[] ++ before, [], trodAll_append (hargs _ (fun _ _ => rfl)) (hres _ _ _), hvars _, rfl, ?_, ?_⟩, ?_⟩
 ·exact ok_one hrt rfl (okWide_bool_mk htb true)
 ·intro b off hp
  have hp' : MemPlace.cell b off ∈ before := by simpa using hp
  have : W'.frozen? ⟨b, off, none⟩ = W.frozen? ⟨b, off, none⟩ := by
   unfold World.frozen?
   rw [hb.block b (hlt _ hp')]
  rw [this]
  exact hz b off hp'
 ·intro ha
  simpa using hn ha
 ·intro p hp _
  simpa using hp
end
def vi (k : IntKind) (zs : List Int) : List Value := zs.map (Value.int k)
section
variable {H : Type} {enc : TypeId × Value → H} {P : Program} {w : World} {base : Nat} {held : Bool}
end
end Go.Aff
namespace Go.Proofs.YtplleficmkfniaaGreatDoor
open Go Go.RowKit Go.Sha Go.Aff
theorem splice_hcells (S T : Nat → Int) (nb : Int) (v : Value) : Go.Aff.splice (hcells S nb v) 0 (wl T) = hcells T nb v := by
  simp [Go.Aff.splice, hcells, wl]
theorem bl_length (B : Nat → Int) : (bl B).length = 64 := by simp [bl]
theorem wl_one (S : Nat → Int) : ∀ v ∈ wl S, v.oneCell' = true := by intro v hv; obtain ⟨i, _, rfl⟩ := List.mem_map.1 hv; rfl
theorem blockAt_bytes {Y : List Int} (h : IsBytes Y) (m i : Nat) : 0 ≤ blockAt Y m i ∧ blockAt Y m i < 256 := by
  unfold blockAt
  rw [List.getD_eq_getElem?_getD]
  rcases hq : Y[64 * m + i]? with _ | x
  · simp
  · exact h x (List.mem_of_getElem? hq)
theorem sh_info8 : (Tryz.prog.info? 254).map (·.size) = some 8 := by kernel_rfl
theorem info64 : (Tryz.prog.info? 313).map (·.size) = some 64 := by kernel_rfl
theorem lies_block {w : World} {X bs : List Int} {j m g o n : Nat} (hj : X.length + j = 64 * m) (hn : 64 ≤ n) (hb : n = bs.length - j)
    (hc : ∀ i, i < n → w.cell? ⟨g, o + i, none⟩ = (vb (bs.drop j))[i]?) : Lies w g o (bl (blockAt (X ++ bs) m)) := by
  intro i hi
  rw [bl_length] at hi
  rw [hc i (by omega)]
  have h1 : (bl (blockAt (X ++ bs) m))[i]? = some (.int .u8 (blockAt (X ++ bs) m i)) := by simp [bl, hi]
  rw [h1]
  have hlt : j + i < bs.length := by omega
  unfold vb blockAt
  rw [List.getElem?_map, List.getElem?_drop, List.getElem?_eq_getElem hlt, List.getD_eq_getElem?_getD, List.getElem?_append_right (by omega),
    show 64 * m + i - X.length = j + i by omega, List.getElem?_eq_getElem hlt]
  rfl
theorem lies_full {w : World} {X bs : List Int} {r k g o : Nat} (hr : r = X.length % 64) (hrk : r + k = 64) (hk : k ≤ bs.length)
    (hc : ∀ i, i < r + k → w.cell? ⟨g, o + i, none⟩ = (vb (X.drop (64 * (X.length / 64))) ++ vb (bs.take k))[i]?) : Lies w g o (bl (blockAt (X ++ bs) (X.length / 64))) := by
  intro i hi
  rw [bl_length] at hi
  rw [hc i (by omega)]
  have h1 : (bl (blockAt (X ++ bs) (X.length / 64)))[i]? = some (.int .u8 (blockAt (X ++ bs) (X.length / 64) i)) := by simp [bl, hi]
  rw [h1]
  have hl : (X.drop (64 * (X.length / 64))).length = r := by rw [List.length_drop]; omega
  unfold vb blockAt
  rw [← List.map_append, List.getElem?_map, List.getD_eq_getElem?_getD]
  by_cases h : i < r
  · have hx : 64 * (X.length / 64) + i < X.length := by omega
    rw [List.getElem?_append_left (by omega), List.getElem?_drop, List.getElem?_append_left hx, List.getElem?_eq_getElem hx]
    rfl
  · have hx : i - r < bs.length := by omega
    rw [List.getElem?_append_right (by omega), hl, List.getElem?_take, if_pos (by omega), List.getElem?_append_right (by omega), show 64 * (X.length / 64) + i - X.length = i - r by omega, List.getElem?_eq_getElem hx]
    rfl
theorem stN_more (S : Nat → Int) (X bs : List Int) (k : Nat) (hk : 64 * k ≤ X.length) : stN S (X ++ bs) k = stN S X k :=
  stN_congr S _ _ _ (fun i hi => by rw [List.getElem?_append_left (by omega)])
theorem bytes_append {X Y : List Int} (hX : IsBytes X) (hY : IsBytes Y) : IsBytes (X ++ Y) := fun x hx => (List.mem_append.1 hx).elim (hX x) (hY x)
theorem hash_short {w : World} {p : Nat} {u : Value} {S : Nat → Int} {nb : Nat} {X bs : List Int} {r : Nat} (hr : r = X.length % 64) (hs : r + bs.length < 64) (hX : IsBytes X) (hbs : IsBytes bs)
    (hb : Blk w p 311 (hcells (stN S X (X.length / 64)) ((nb + X.length / 64 : Nat) : Int) u)) (ho : w.ownsRow 0 5 1 u (r + bs.length) (vb (X.drop (64 * (X.length / 64))) ++ vb bs)) : HashAt w p u S nb (X ++ bs) := by
  have e1 : (X ++ bs).length / 64 = X.length / 64 := by rw [List.length_append]; omega
  have e2 : (X ++ bs).length % 64 = r + bs.length := by rw [List.length_append]; omega
  refine ⟨?_, ?_, bytes_append hX hbs⟩
  · rw [e1, stN_more S X bs _ (by omega)]; exact hb
  · rw [e1, e2, List.drop_append_of_le_length (by omega)]
    unfold vb at ho ⊢
    rw [List.map_append]; exact ho
theorem hash_end {w : World} {p : Nat} {v : Value} {S : Nat → Int} {nb m j : Nat} {X bs : List Int} (hm : X.length + j = 64 * m) (hj : j ≤ bs.length) (hs : bs.length - j < 64) (hX : IsBytes X) (hbs : IsBytes bs)
    (hb : Blk w p 311 (hcells (stN S (X ++ bs) m) ((nb + m : Nat) : Int) v)) (ho : w.ownsRow 0 5 1 v (bs.length - j) (vb (bs.drop j))) : HashAt w p v S nb (X ++ bs) := by
  have e1 : (X ++ bs).length / 64 = m := by rw [List.length_append]; omega
  have e2 : (X ++ bs).length % 64 = bs.length - j := by rw [List.length_append]; omega
  refine ⟨?_, ?_, bytes_append hX hbs⟩
  · rw [e1]; exact hb
  · rw [e1, e2, List.drop_append, List.drop_eq_nil_of_le (by omega), List.nil_append, show 64 * m - X.length = j by omega]
    exact ho
def lenV : Value → Nat
  | .slice _ n _ => n
  | _ => 0
def Taking (p : Nat) (v : Value) (S : Nat → Int) (nb : Nat) (X bs : List Int) (w wr : World) (b : Value) (j : Nat) : Prop :=
  ∃ A c m u, b = .slice A (bs.length - j) c ∧ bs.length - j ≤ c ∧ j ≤ bs.length ∧ X.length + j = 64 * m ∧ Rd wr A (bs.length - j) (vb (bs.drop j)) ∧ Out (Foot p v) A (bs.length - j) ∧
    Blk wr p 311 (hcells (stN S (X ++ bs) m) ((nb + m : Nat) : Int) u) ∧ Keeps (Foot p v) w wr
theorem write_any (w : World) (hG : Glob w) (p : Nat) (v : Value) (S : Nat → Int) (nb : Nat) (X : List Int) (h : HashAt w p v S nb X) (hfoot : ∀ i, Foot p v i → (max 3 1 + 1) ≤ i)
    (A : Option Addr) (c : Nat) (bs : List Int) (hr : Rd w A bs.length (vb bs)) (ho : Out (Foot p v) A bs.length) (hbs : IsBytes bs) (hc : bs.length ≤ c) (hbig : 64 * nb + X.length + bs.length < 4611686018427387904) (hreach : bs.length ≤ 140737488351232) :
    Calls Tryz.prog 132 #[.pointer (some ⟨p, 0, none⟩), .slice A bs.length c] w fun e w' => e = .returned (.tuple #[]) ∧
      ∃ v', HashAt w' p v' S nb (X ++ bs) ∧ Keeps (Foot p v) w w' ∧ (∀ g, v'.ownBlock = some g → v.ownBlock = some g ∨ w.heap.size ≤ g) := by
  by_cases h0 : X.length % 64 = 0
  · have hv := h
    obtain ⟨hb, how, hx⟩ := h
    obtain ⟨A0, c0, rfl⟩ := own_shape how
    have c9 : w.cell? ⟨p, 9, none⟩ = some (.slice A0 0 c0) := by rw [hb.cell, h0]; rfl
    have T0 : Taking p (.slice A0 (X.length % 64) c0) S nb X bs w w (.slice A bs.length c) 0 := by
      refine ⟨A, c, X.length / 64, .slice A0 (X.length % 64) c0, by simp, by simpa using hc, by omega, by omega, by simpa using hr, by simpa using ho, ?_, Keeps.refl _ _⟩
      have e : stN S (X ++ bs) (X.length / 64) = stN S X (X.length / 64) := stN_congr S _ _ _ (fun i hi => by rw [List.getElem?_append_left (by omega)])
      rw [e]
      exact hb
    have HT0 := H_ T0
    have HV := H_ hv
    have HG := H_ hG
    have HR := H_ hr
    have HO := H_ ho
    have HBS := H_ hbs
    have HF := H_ hfoot
    have HX := H_ hx
    have H0 := H_ h0
    clear hb how T0 hv hG hr ho hbs hfoot hx h0
    go_enter Tryz.func132, Tryz.ntmps132
    go_wp2
    go_loopw [1] (fun b wr => ∃ j, Taking p (.slice A0 (X.length % 64) c0) S nb X bs w wr b j) (fun b _ => lenV b)
    case atStart => exact ⟨0, HT0.out⟩
    case round =>
      clear HT0
      obtain ⟨j, A1, c1, m, u, rfl, hc1, hj, hm, hrd, hout, hblk, hkeep⟩ := hrel
      have HJ := H_ hj
      have HM := H_ hm
      have HO1 := H_ hout
      have HK := H_ hkeep
      have HR1 := H_ hrd
      obtain ⟨n, hn⟩ : ∃ n, n = bs.length - j := ⟨_, rfl⟩
      obtain ⟨q, hq⟩ : ∃ q, q = nb + m := ⟨_, rfl⟩
      have hqb : q < 72057594037927936 := by omega
      have HN := H_ hn
      have HQ := H_ hq
      rw [← hq] at hblk
      rw [← hn] at hc1 ⊢
      have hn1 : n ≤ 140737488351232 := by omega
      by_cases h64 : 64 ≤ n
      · obtain ⟨g, o, rfl, hc⟩ := hrd.2 (by omega)
        rw [← hn] at hc
        have hl := lies_block (X := X) hm h64 hn hc
        have HL := H_ hl
        have HB := H_ hblk
        have hs : Lies wr p 0 (wl (stN S (X ++ bs) m)) := Lies.of_blk hblk (by simp [hcells, wl])
        have hro : ∀ k, Calls Tryz.prog 180 #[.agg (wl (stN S (X ++ bs) m)).toArray, .agg (bl (blockAt (X ++ bs) m)).toArray] (wr.drewN k) fun e w' => e = .returned (.agg (wl (stN S (X ++ bs) (m + 1))).toArray) ∧ Below wr.heap.size wr w' :=
          fun k => (round_any (stN S (X ++ bs) m) (blockAt (X ++ bs) m) (blockAt_bytes (bytes_append HX.out HBS.out) m) (wr.drewN k) (HG.out.keep hkeep HF.out).1 (by have := (HG.out.keep hkeep HF.out).lt; show 3 < wr.heap.size; omega)).mono fun e w' h => ⟨h.1, ⟨h.2.os, h.2.tape, h.2.output, h.2.size, h.2.block⟩⟩
        have HS := H_ hs
        have HRO := H_ hro
        have harr := fun wx => run_arrayAt (P := Tryz.prog) wx 313 5 64 (some ⟨g, o, none⟩) n c1 Tryz.underlying313 h64
        clear hs hro hl hblk hrd hout hkeep hm hj hn hc hq
        go_wp2
        refine wp_region_order [0] [1, 2, 3, 4, 5, 6, 7] 8 [9, 10, 11] (by kernel_rfl) (by kernel_rfl) (by intro _ _ d _ _ h; cases d <;> exact h) ?_
        simp only [pickOps, List.filterMap_cons, List.filterMap_nil, List.getElem?_cons_zero, List.getElem?_cons_succ]
        show wpQuiet _ _ _ _ [_] _
        repeat (go_big_quiet_step (fail))
        refine wpQuiet_nil ?_
        show wpQuiet _ _ _ _ [_, _, _, _, _, _, _] _
        repeat (go_big_quiet_step (fail))
        refine wpQuiet_load_lies rfl 254 _ rfl 0 (wl (stN S (X ++ bs) m)) _ rfl HS.out Tryz.underlying254 rfl sh_info8 ?_
        simp only [Act.put, List.setIfInBounds_toArray, List.set_cons_succ, List.set_cons_zero]
        repeat (go_big_quiet_step (fail))
        refine wpQuiet_load_lies rfl 313 _ rfl o (bl (blockAt (X ++ bs) m)) _ rfl HL.out Tryz.underlying313 rfl info64 ?_
        simp only [Act.put, List.setIfInBounds_toArray, List.set_cons_succ, List.set_cons_zero]
        refine wpQuiet_nil ?_
        rintro _ ⟨nq, rfl⟩
        show wpList _ _ _ [_, _, _, _] _ _
        go_wp2_with (first | (go_at_call 180; refine (HRO.out nq).mono ?_; rintro e w' ⟨rfl, hbw⟩) | ((with_reducible show wpList _ _ _ (⟨none, Op.store 254 _ _, _, _, _, _⟩ :: _) _ _); refine wpList_store_at rfl 254 _ _ rfl 0 (wl (stN S (X ++ bs) (m + 1))) rfl rfl (HB.out.below hbw HB.out.lt) (by simp [hcells, wl]) sh_info8 (wl_one _) ?_; rw [splice_hcells]; have hb2 := (HB.out.below hbw HB.out.lt).setRow (hcells (stN S (X ++ bs) (m + 1)) (q : Int) u); have hk2 : Keeps (Foot p (.slice A0 (X.length % 64) c0)) wr (w'.setRow p (hcells (stN S (X ++ bs) (m + 1)) (q : Int) u).toArray) := (Keeps.of_below hbw).setRow (.inl (.inl rfl)) _; generalize w'.setRow p _ = w2 at hb2 hk2 ⊢; have d8 : w2.cell? ⟨p, 8, none⟩ = some (.int .u64 (q : Int)) := (by rw [hb2.cell]; rfl); have e8 : w2.frozen? ⟨p, 8, none⟩ = false := hb2.frozen 8; have HB2 := H_ hb2; have HK2 := H_ hk2; clear hb2 hk2))
        go_roundw
        case rel =>
          have hn' := HN.out
          have hj' := HJ.out
          have hm' := HM.out
          have e : bs.length - (j + 64) = n - 64 := by omega
          have ev : vb (bs.drop (j + 64)) = (vb (bs.drop j)).drop 64 := by simp [vb, List.map_drop, List.drop_drop]
          have hr1 := HR1.out
          have ho1 := HO1.out
          rw [← hn'] at hr1 ho1
          have hk3 : Keeps (Foot p (.slice A0 (X.length % 64) c0)) wr (w2.setCell ⟨p, 8, none⟩ (.int .u64 ((q + 1 : Nat) : Int))) := HK2.out.setCell (.inl (.inl rfl)) _
          have hr2 := (hr1.cut h64 hc1).keep hk3 (ho1.cut h64 hc1)
          have ho2 := ho1.cut h64 hc1
          have eA : (if c1 = 64 then some (⟨g, o, none⟩ : Addr) else (some (⟨g, o, none⟩ : Addr)).map (·.add 64)) = if c1 = 64 then some ⟨g, o, none⟩ else some ⟨g, o + 64, none⟩ := by simp [add_at]
          rw [eA] at hr2 ho2
          refine ⟨j + 64, ?_⟩
          unfold Taking
          rw [e, ev]
          refine ⟨_, _, m + 1, u, rfl, by omega, by omega, by omega, hr2, ho2, ?_, HK.out.trans hk3 (fun i _ h => h)⟩
          have e2 : nb + (m + 1) = q + 1 := by have := HQ.out; omega
          rw [e2]
          exact HB2.out.set_ 8 _
        case measure => simp [lenV]; omega
      · have hcl : Calls Tryz.prog 65 #[.slice A1 n c1] wr fun e w' => ∃ A' c', e = .returned (.slice A' n c') ∧ w'.ownsRow 0 5 1 (.slice A' n c') n (vb (bs.drop j)) ∧ Keeps (fun _ => False) wr w' ∧ ∀ g, (Value.slice A' n c').ownBlock = some g → wr.heap.size ≤ g := by
          have hl : (bs.drop j).length = n := by rw [List.length_drop, hn]
          have := clone_any wr A1 c1 (bs.drop j) (by rw [hl, hn]; exact hrd) (by omega)
          rw [hl] at this
          refine this.mono fun e w' ⟨A', c', h1, h2, h3, h4⟩ => ?_
          rw [hl] at h1 h2 h4
          exact ⟨A', c', h1, h2, h3, h4⟩
        have HCL := H_ hcl
        have HB := H_ hblk
        clear hcl hblk hrd hout hkeep hm hj hn hq
        go_wp2_with (go_at_call 65; refine HCL.out.mono ?_; rintro e w' ⟨A', c', rfl, hown, hk, hnew⟩; have hb2 := hk.blk HB.out (fun h => h); have d9 : w'.cell? ⟨p, 9, none⟩ = some u := (by rw [hb2.cell]; rfl); have e9 : w'.frozen? ⟨p, 9, none⟩ = false := hb2.frozen 9; have HB2 := H_ hb2; have HOW := H_ hown; have HK2 := H_ hk; have HNW := H_ hnew; clear hb2 hown hk hnew)
        have hn' := HN.out
        have hq' := HQ.out
        have hk3 : Keeps (fun i => i = p) wr (w'.setCell ⟨p, 9, none⟩ (.slice A' n c')) := Keeps.setCell (F := fun i => i = p) (HK2.out.mono (fun _ _ h => h.elim)) (.inl rfl) _
        go_end0
        refine ⟨rfl, .slice A' n c', ?_, ?_, ?_⟩
        · refine hash_end HM.out HJ.out (by omega) HX.out HBS.out ?_ ?_
          · rw [← hq']; exact HB2.out.set_ 9 _
          · rw [← hn']
            refine Keeps.own (Keeps.setCell (F := fun i => i = p) (Keeps.refl _ _) (.inl rfl) _) HOW.out (fun g he e => ?_)
            have h1 := HNW.out g he
            have h2 := HB.out.lt
            omega
        · exact HK.out.trans hk3 (fun i _ h => .inl h)
        · intro g he
          exact .inr (Nat.le_trans HK.out.size (HNW.out g he))
  · have hv := h
    obtain ⟨hb, how, hx⟩ := h
    obtain ⟨A0, c0, rfl⟩ := own_shape how
    obtain ⟨r, hrr⟩ : ∃ r, r = X.length % 64 := ⟨_, rfl⟩
    rw [← hrr] at hb how hv h0 ho hfoot ⊢
    have hr64 : r < 64 := by omega
    have hr0 : 0 < r := by omega
    have c9 : w.cell? ⟨p, 9, none⟩ = some (.slice A0 r c0) := by rw [hb.cell]; rfl
    have f9 : w.frozen? ⟨p, 9, none⟩ = false := hb.frozen 9
    have HV := H_ hv
    have HB := H_ hb
    have HOW := H_ how
    have HG := H_ hG
    have HR := H_ hr
    have HO := H_ ho
    have HBS := H_ hbs
    have HF := H_ hfoot
    have HX := H_ hx
    have HRR := H_ hrr
    have hgb : ∀ k w', (w.drewN k).grownBy w' (Value.slice A0 r c0).ownBlock → Blk w' p 311 (hcells (stN S X (X.length / 64)) ((nb + X.length / 64 : Nat) : Int) (.slice A0 r c0)) :=
      fun k w' hg => hb.of_block (hg.block p hb.lt (fun e => HV.out.apart e.symm))
    have HGB := H_ hgb
    clear hb hv hG hr ho hbs hfoot hx h0 hrr how hgb
    by_cases hsm : bs.length < 64 - r
    · go_enter Tryz.func132, Tryz.ntmps132
      go_wp2
      refine wp_region_order [0] [1, 2, 3, 4, 5, 6, 7] 8 [9, 10, 11] (by kernel_rfl) (by kernel_rfl) (by intro _ _ d _ _ h; cases d <;> exact h) ?_
      simp only [pickOps, List.filterMap_cons, List.filterMap_nil, List.getElem?_cons_zero, List.getElem?_cons_succ]
      show wpQuiet _ _ _ _ [_] _
      repeat (go_big_quiet_step (fail))
      refine wpQuiet_nil ?_
      show wpQuiet _ _ _ _ [_, _, _, _, _, _, _] _
      repeat (go_big_quiet_step (fail))
      refine wpQuiet_nil ?_
      rintro _ ⟨nq, rfl⟩
      show wpList _ _ _ [_, _, _, _] _ _
      go_wp2_with (at_builtin; refine wpList_append_rd _ rfl (.tmp 24) (.tmp 27) 48 rfl 5 (.int .u8 0) 1 Tryz.underlying48 info5 rfl _ r _ rfl HOW.out A bs.length c (vb bs) rfl HR.out (vb_one bs) (by unfold maxLen; omega) (by omega) ?_; intro A' c' w' hown hg hnb; have d9 : w'.cell? ⟨p, 9, none⟩ = some (.slice A0 r c0) := (by rw [(HGB.out nq w' hg).cell]; rfl); have e9 : w'.frozen? ⟨p, 9, none⟩ = false := (HGB.out nq w' hg).frozen 9)
      all_goals
        refine bodyPost_ret (results_none rfl _ _ _) rfl ⟨rfl, .slice A' (r + bs.length) c', ?_, ?_, ?_⟩
        · refine hash_short HRR.out (by omega) HX.out HBS.out ?_ ?_
          · exact (HGB.out nq w' hg).set_ 9 _
          · exact Keeps.own (Keeps.setCell (F := fun i => i = p) (Keeps.refl _ _) (.inl rfl) _) hown (fun g he e => by
            rcases hnb with h | h
            · exact HV.out.apart (h.symm.trans (he.trans (by rw [e])))
            · have h1 := h.symm.trans he
              have h2 := HV.out.1.lt
              injection h1 with h1
              rw [← h1] at e
              exact absurd h2 (by rw [← e]; exact Nat.lt_irrefl _))
        · refine ((((Keeps.refl (Foot p (.slice A0 r c0)) w).drewN nq).grown hg (fun g he => .inl (.inr he))).setCell (.inl (.inl rfl)) _)
        · intro g he
          rcases hnb with hnb | hnb
          · exact .inl (hnb.symm.trans he)
          · exact .inr (by rw [hnb] at he; injection he with he; rw [← he]; exact Nat.le_refl _)
    · obtain ⟨k, hk⟩ : ∃ k, k = 64 - r := ⟨_, rfl⟩
      have hks : 64 - r = k := hk.symm
      have hkb : k ≤ bs.length := by omega
      have hrk : r + k = 64 := by omega
      have hdec : (((r : Int) + k < 64)) = False := eq_false (by omega)
      have HKK := H_ hk
      have HRK := H_ hrk
      clear hk hrk
      have hrt : Rd w A k (vb (bs.take k)) := by
        have := HR.out.take (k := k) (by omega)
        have e : vb (bs.take k) = (vb bs).take k := by simp [vb, List.map_take]
        rw [e]; exact this
      have HRT := H_ hrt
      have hrd0 : Rd w (if c = k then A else A.map (·.add k)) (bs.length - k) (vb (bs.drop k)) := by
        have := HR.out.cut (k := k) hkb hc
        have e : vb (bs.drop k) = (vb bs).drop k := by simp [vb, List.map_drop]
        rw [e]; exact this
      have HRD := H_ hrd0
      have HOT := H_ (HO.out.cut hkb hc)
      clear hrt hrd0
      go_enter Tryz.func132, Tryz.ntmps132
      go_wp2
      refine wp_region_order [0] [1, 2, 3, 4, 5, 6, 7] 8 [9, 10, 11] (by kernel_rfl) (by kernel_rfl) (by intro _ _ d _ _ h; cases d <;> exact h) ?_
      simp only [pickOps, List.filterMap_cons, List.filterMap_nil, List.getElem?_cons_zero, List.getElem?_cons_succ]
      show wpQuiet _ _ _ _ [_] _
      repeat (go_big_quiet_step (fail))
      refine wpQuiet_nil ?_
      show wpQuiet _ _ _ _ [_, _, _, _, _, _, _] _
      repeat (go_big_quiet_step (fail))
      refine wpQuiet_nil ?_
      rintro _ ⟨nq, rfl⟩
      show wpList _ _ _ [_, _, _, _] _ _
      go_wp2_with (at_builtin; refine wpList_append_rd _ rfl (.tmp 24) (.tmp 27) 48 rfl 5 (.int .u8 0) 1 Tryz.underlying48 info5 rfl _ r _ rfl HOW.out A k c (vb (bs.take k)) rfl HRT.out (vb_one _) (by unfold maxLen; omega) (by omega) ?_; intro A' c' w' hown hg hnb; have d9 : w'.cell? ⟨p, 9, none⟩ = some (.slice A0 r c0) := (by rw [(HGB.out nq w' hg).cell]; rfl); have e9 : w'.frozen? ⟨p, 9, none⟩ = false := (HGB.out nq w' hg).frozen 9)
      all_goals
        have hk1 : Keeps (Foot p (.slice A0 r c0)) w (w'.setCell ⟨p, 9, none⟩ (.slice A' (r + k) c')) := (((Keeps.refl (Foot p (.slice A0 r c0)) w).drewN nq).grown hg (fun g he => .inl (.inr he))).setCell (.inl (.inl rfl)) _
        have hb1 : Blk (w'.setCell ⟨p, 9, none⟩ (.slice A' (r + k) c')) p 311 (hcells (stN S (X ++ bs) (X.length / 64)) ((nb + X.length / 64 : Nat) : Int) (.slice A' (r + k) c')) := by
          rw [stN_more S X bs _ (by omega)]; exact (HGB.out nq w' hg).set_ 9 _
        obtain ⟨ga, oa, rfl, hca⟩ := (Rd.of_own hown).2 (by have := HRK.out; omega)
        have hga : ga ≠ p := by
          intro e
          subst e
          rcases hnb with h | h
          · exact HV.out.apart h.symm
          · have h1 : some ga = some w.heap.size := h
            injection h1 with h1
            exact absurd HV.out.1.lt (by rw [← h1]; exact Nat.lt_irrefl _)
        have hl1 : Lies (w'.setCell ⟨p, 9, none⟩ (.slice (some ⟨ga, oa, none⟩) (r + k) c')) ga oa (bl (blockAt (X ++ bs) (X.length / 64))) :=
          lies_full HRR.out HRK.out hkb (fun i hi => by rw [← hca i hi]; exact World.cell?_setCell_far _ _ _ _ (fun e => hga e.symm))
        generalize w'.setCell ⟨p, 9, none⟩ (.slice (some ⟨ga, oa, none⟩) (r + k) c') = w1 at hk1 hb1 hl1 ⊢
        obtain ⟨m0, hm0⟩ : ∃ m0, m0 = X.length / 64 := ⟨_, rfl⟩
        obtain ⟨q0, hq0⟩ : ∃ q0, q0 = nb + X.length / 64 := ⟨_, rfl⟩
        have hq0b : q0 < 72057594037927936 := by omega
        rw [← hq0, ← hm0] at hb1
        rw [← hm0] at hl1
        have x9 : w1.cell? ⟨p, 9, none⟩ = some (.slice (some ⟨ga, oa, none⟩) (r + k) c') := by rw [hb1.cell]; rfl
        have hs1 : Lies w1 p 0 (wl (stN S (X ++ bs) m0)) := Lies.of_blk hb1 (by simp [hcells, wl])
        have hro : ∀ k, Calls Tryz.prog 180 #[.agg (wl (stN S (X ++ bs) m0)).toArray, .agg (bl (blockAt (X ++ bs) m0)).toArray] (w1.drewN k) fun e w' => e = .returned (.agg (wl (stN S (X ++ bs) (m0 + 1))).toArray) ∧ Below w1.heap.size w1 w' :=
          fun k => (round_any (stN S (X ++ bs) m0) (blockAt (X ++ bs) m0) (blockAt_bytes (bytes_append HX.out HBS.out) m0) (w1.drewN k) (HG.out.keep hk1 HF.out).1 (by have := (HG.out.keep hk1 HF.out).lt; show 3 < w1.heap.size; omega)).mono fun e w' h => ⟨h.1, ⟨h.2.os, h.2.tape, h.2.output, h.2.size, h.2.block⟩⟩
        have HS1 := H_ hs1
        have HL1 := H_ hl1
        have HRO := H_ hro
        have HB1 := H_ hb1
        have HK1 := H_ hk1
        have HM0 := H_ hm0
        have HQ0 := H_ hq0
        have harr := fun wx => run_arrayAt (P := Tryz.prog) wx 313 5 64 (some ⟨ga, oa, none⟩) (r + k) c' Tryz.underlying313 (by have := HRK.out; omega)
        clear hs1 hl1 hro hb1 hk1 hm0 hq0 hown hg hnb hca
        refine wp_region_order [0] [1, 2, 3, 4, 5, 6, 7, 8, 9, 10] 11 [12, 13, 14] (by kernel_rfl) (by kernel_rfl) (by intro _ _ d _ _ h; cases d <;> exact h) ?_
        simp only [pickOps, List.filterMap_cons, List.filterMap_nil, List.getElem?_cons_zero, List.getElem?_cons_succ]
        show wpQuiet _ _ _ _ [_] _
        repeat (go_big_quiet_step (fail))
        refine wpQuiet_nil ?_
        show wpQuiet _ _ _ _ [_, _, _, _, _, _, _, _, _, _] _
        repeat (go_big_quiet_step (fail))
        refine wpQuiet_load_lies rfl 254 _ rfl 0 (wl (stN S (X ++ bs) m0)) _ rfl HS1.out Tryz.underlying254 rfl sh_info8 ?_
        simp only [Act.put, List.setIfInBounds_toArray, List.set_cons_succ, List.set_cons_zero]
        repeat (go_big_quiet_step (fail))
        refine wpQuiet_load_lies rfl 313 _ rfl oa (bl (blockAt (X ++ bs) m0)) _ rfl HL1.out Tryz.underlying313 rfl info64 ?_
        simp only [Act.put, List.setIfInBounds_toArray, List.set_cons_succ, List.set_cons_zero]
        refine wpQuiet_nil ?_
        rintro _ ⟨nq2, rfl⟩
        show wpList _ _ _ [_, _, _, _] _ _
        go_wp2_with (first | (go_at_call 180; refine (HRO.out nq2).mono ?_; rintro e wz ⟨rfl, hbw⟩) | ((with_reducible show wpList _ _ _ (⟨none, Op.store 254 _ _, _, _, _, _⟩ :: _) _ _); refine wpList_store_at rfl 254 _ _ rfl 0 (wl (stN S (X ++ bs) (m0 + 1))) rfl rfl (HB1.out.below hbw HB1.out.lt) (by simp [hcells, wl]) sh_info8 (wl_one _) ?_; rw [splice_hcells]; have hb2 := (HB1.out.below hbw HB1.out.lt).setRow (hcells (stN S (X ++ bs) (m0 + 1)) (q0 : Int) (.slice (some ⟨ga, oa, none⟩) (r + k) c')); have hk2 : Keeps (Foot p (.slice A0 r c0)) w1 (wz.setRow p (hcells (stN S (X ++ bs) (m0 + 1)) (q0 : Int) (.slice (some ⟨ga, oa, none⟩) (r + k) c')).toArray) := (Keeps.of_below hbw).setRow (.inl (.inl rfl)) _; generalize wz.setRow p _ = w2 at hb2 hk2 ⊢; have y8 : w2.cell? ⟨p, 8, none⟩ = some (.int .u64 (q0 : Int)) := (by rw [hb2.cell]; rfl); have z8 : w2.frozen? ⟨p, 8, none⟩ = false := hb2.frozen 8; have y9 : w2.cell? ⟨p, 9, none⟩ = some (.slice (some ⟨ga, oa, none⟩) (r + k) c') := (by rw [hb2.cell]; rfl); have z9 : w2.frozen? ⟨p, 9, none⟩ = false := hb2.frozen 9; have HB2 := H_ hb2; have HK2 := H_ hk2; clear hb2 hk2))
        clear x9 y8 z8 y9 z9 harr hdec hks
        go_loopw [1] (fun b wr => ∃ j, Taking p (.slice A0 r c0) S nb X bs w wr b j) (fun b _ => lenV b)
        case atStart =>
          have hk3 : Keeps (Foot p (.slice A0 r c0)) w ((w2.setCell ⟨p, 8, none⟩ (.int .u64 ((q0 : Int) + 1))).setCell ⟨p, 9, none⟩ (.slice none 0 0)) := ((HK1.out.trans HK2.out (fun _ _ h => h)).setCell (.inl (.inl rfl)) _).setCell (.inl (.inl rfl)) _
          have hrd := HRD.out
          have hot := HOT.out
          first
            | (have hck : c = k := by assumption
               rw [if_pos hck] at hrd hot)
            | (have hck : ¬ c = k := by assumption
               rw [if_neg hck] at hrd hot)
          refine ⟨k, _, _, m0 + 1, .slice none 0 0, rfl, by omega, hkb, ?_, hrd.keep hk3 hot, hot, ?_, hk3⟩
          · have h1 := HM0.out
            have h2 := HRR.out
            have h3 := HRK.out
            omega
          · have h1 := HM0.out
            have h2 := HQ0.out
            have e : nb + (m0 + 1) = q0 + 1 := by omega
            rw [e]
            exact (HB2.out.set_ 8 _).set_ 9 _
        case round =>
          clear HB1 HK1 HB2 HK2 HRO HS1 HL1 HRD HOT HRT HB HGB HOW
          obtain ⟨j, A1, c1, m, u, rfl, hc1, hj, hm, hrd, hout, hblk, hkeep⟩ := hrel
          have HJ := H_ hj
          have HM := H_ hm
          have HO1 := H_ hout
          have HK := H_ hkeep
          have HR1 := H_ hrd
          obtain ⟨n, hn⟩ : ∃ n, n = bs.length - j := ⟨_, rfl⟩
          obtain ⟨q, hq⟩ : ∃ q, q = nb + m := ⟨_, rfl⟩
          have hqb : q < 72057594037927936 := by omega
          have HN := H_ hn
          have HQ := H_ hq
          rw [← hq] at hblk
          rw [← hn] at hc1 ⊢
          have hn1 : n ≤ 140737488351232 := by omega
          by_cases h64 : 64 ≤ n
          · obtain ⟨g, o, rfl, hc⟩ := hrd.2 (by omega)
            rw [← hn] at hc
            have hl := lies_block (X := X) hm h64 hn hc
            have HL := H_ hl
            have HB := H_ hblk
            have hs : Lies wr p 0 (wl (stN S (X ++ bs) m)) := Lies.of_blk hblk (by simp [hcells, wl])
            have hro : ∀ k, Calls Tryz.prog 180 #[.agg (wl (stN S (X ++ bs) m)).toArray, .agg (bl (blockAt (X ++ bs) m)).toArray] (wr.drewN k) fun e w' => e = .returned (.agg (wl (stN S (X ++ bs) (m + 1))).toArray) ∧ Below wr.heap.size wr w' :=
              fun k => (round_any (stN S (X ++ bs) m) (blockAt (X ++ bs) m) (blockAt_bytes (bytes_append HX.out HBS.out) m) (wr.drewN k) (HG.out.keep hkeep HF.out).1 (by have := (HG.out.keep hkeep HF.out).lt; show 3 < wr.heap.size; omega)).mono fun e w' h => ⟨h.1, ⟨h.2.os, h.2.tape, h.2.output, h.2.size, h.2.block⟩⟩
            have HS := H_ hs
            have HRO := H_ hro
            have harr := fun wx => run_arrayAt (P := Tryz.prog) wx 313 5 64 (some ⟨g, o, none⟩) n c1 Tryz.underlying313 h64
            clear hs hro hl hblk hrd hout hkeep hm hj hn hc hq
            go_wp2
            refine wp_region_order [0] [1, 2, 3, 4, 5, 6, 7] 8 [9, 10, 11] (by kernel_rfl) (by kernel_rfl) (by intro _ _ d _ _ h; cases d <;> exact h) ?_
            simp only [pickOps, List.filterMap_cons, List.filterMap_nil, List.getElem?_cons_zero, List.getElem?_cons_succ]
            show wpQuiet _ _ _ _ [_] _
            repeat (go_big_quiet_step (fail))
            refine wpQuiet_nil ?_
            show wpQuiet _ _ _ _ [_, _, _, _, _, _, _] _
            repeat (go_big_quiet_step (fail))
            refine wpQuiet_load_lies rfl 254 _ rfl 0 (wl (stN S (X ++ bs) m)) _ rfl HS.out Tryz.underlying254 rfl sh_info8 ?_
            simp only [Act.put, List.setIfInBounds_toArray, List.set_cons_succ, List.set_cons_zero]
            repeat (go_big_quiet_step (fail))
            refine wpQuiet_load_lies rfl 313 _ rfl o (bl (blockAt (X ++ bs) m)) _ rfl HL.out Tryz.underlying313 rfl info64 ?_
            simp only [Act.put, List.setIfInBounds_toArray, List.set_cons_succ, List.set_cons_zero]
            refine wpQuiet_nil ?_
            rintro _ ⟨nq, rfl⟩
            show wpList _ _ _ [_, _, _, _] _ _
            go_wp2_with (first | (go_at_call 180; refine (HRO.out nq).mono ?_; rintro e w' ⟨rfl, hbw⟩) | ((with_reducible show wpList _ _ _ (⟨none, Op.store 254 _ _, _, _, _, _⟩ :: _) _ _); refine wpList_store_at rfl 254 _ _ rfl 0 (wl (stN S (X ++ bs) (m + 1))) rfl rfl (HB.out.below hbw HB.out.lt) (by simp [hcells, wl]) sh_info8 (wl_one _) ?_; rw [splice_hcells]; have hb2 := (HB.out.below hbw HB.out.lt).setRow (hcells (stN S (X ++ bs) (m + 1)) (q : Int) u); have hk2 : Keeps (Foot p (.slice A0 r c0)) wr (w'.setRow p (hcells (stN S (X ++ bs) (m + 1)) (q : Int) u).toArray) := (Keeps.of_below hbw).setRow (.inl (.inl rfl)) _; generalize w'.setRow p _ = w2 at hb2 hk2 ⊢; have d8 : w2.cell? ⟨p, 8, none⟩ = some (.int .u64 (q : Int)) := (by rw [hb2.cell]; rfl); have e8 : w2.frozen? ⟨p, 8, none⟩ = false := hb2.frozen 8; have HB2 := H_ hb2; have HK2 := H_ hk2; clear hb2 hk2))
            go_roundw
            case rel =>
              have hn' := HN.out
              have hj' := HJ.out
              have hm' := HM.out
              have e : bs.length - (j + 64) = n - 64 := by omega
              have ev : vb (bs.drop (j + 64)) = (vb (bs.drop j)).drop 64 := by simp [vb, List.map_drop, List.drop_drop]
              have hr1 := HR1.out
              have ho1 := HO1.out
              rw [← hn'] at hr1 ho1
              have hk3 : Keeps (Foot p (.slice A0 r c0)) wr (w2.setCell ⟨p, 8, none⟩ (.int .u64 ((q + 1 : Nat) : Int))) := HK2.out.setCell (.inl (.inl rfl)) _
              have hr2 := (hr1.cut h64 hc1).keep hk3 (ho1.cut h64 hc1)
              have ho2 := ho1.cut h64 hc1
              have eA : (if c1 = 64 then some (⟨g, o, none⟩ : Addr) else (some (⟨g, o, none⟩ : Addr)).map (·.add 64)) = if c1 = 64 then some ⟨g, o, none⟩ else some ⟨g, o + 64, none⟩ := by simp [add_at]
              rw [eA] at hr2 ho2
              refine ⟨j + 64, ?_⟩
              unfold Taking
              rw [e, ev]
              refine ⟨_, _, m + 1, u, rfl, by omega, by omega, by omega, hr2, ho2, ?_, HK.out.trans hk3 (fun i _ h => h)⟩
              have e2 : nb + (m + 1) = q + 1 := by have := HQ.out; omega
              rw [e2]
              exact HB2.out.set_ 8 _
            case measure => simp [lenV]; omega
          · have hcl : Calls Tryz.prog 65 #[.slice A1 n c1] wr fun e w' => ∃ A' c', e = .returned (.slice A' n c') ∧ w'.ownsRow 0 5 1 (.slice A' n c') n (vb (bs.drop j)) ∧ Keeps (fun _ => False) wr w' ∧ ∀ g, (Value.slice A' n c').ownBlock = some g → wr.heap.size ≤ g := by
              have hl : (bs.drop j).length = n := by rw [List.length_drop, hn]
              have := clone_any wr A1 c1 (bs.drop j) (by rw [hl, hn]; exact hrd) (by omega)
              rw [hl] at this
              refine this.mono fun e w' ⟨A', c', h1, h2, h3, h4⟩ => ?_
              rw [hl] at h1 h2 h4
              exact ⟨A', c', h1, h2, h3, h4⟩
            have HCL := H_ hcl
            have HB := H_ hblk
            clear hcl hblk hrd hout hkeep hm hj hn hq
            go_wp2_with (go_at_call 65; refine HCL.out.mono ?_; rintro e w' ⟨A', c', rfl, hown, hk, hnew⟩; have hb2 := hk.blk HB.out (fun h => h); have d9 : w'.cell? ⟨p, 9, none⟩ = some u := (by rw [hb2.cell]; rfl); have e9 : w'.frozen? ⟨p, 9, none⟩ = false := hb2.frozen 9; have HB2 := H_ hb2; have HOW := H_ hown; have HK2 := H_ hk; have HNW := H_ hnew; clear hb2 hown hk hnew)
            have hn' := HN.out
            have hq' := HQ.out
            have hk3 : Keeps (fun i => i = p) wr (w'.setCell ⟨p, 9, none⟩ (.slice A' n c')) := Keeps.setCell (F := fun i => i = p) (HK2.out.mono (fun _ _ h => h.elim)) (.inl rfl) _
            go_end0
            refine ⟨rfl, .slice A' n c', ?_, ?_, ?_⟩
            · refine hash_end HM.out HJ.out (by omega) HX.out HBS.out ?_ ?_
              · rw [← hq']; exact HB2.out.set_ 9 _
              · rw [← hn']
                refine Keeps.own (Keeps.setCell (F := fun i => i = p) (Keeps.refl _ _) (.inl rfl) _) HOW.out (fun g he e => ?_)
                have h1 := HNW.out g he
                have h2 := HB.out.lt
                omega
            · exact HK.out.trans hk3 (fun i _ h => .inl h)
            · intro g he
              exact .inr (Nat.le_trans HK.out.size (HNW.out g he))
end Go.Proofs.YtplleficmkfniaaGreatDoor
namespace Go.Aff
open Go Go.RowKit
theorem run_index_row {P : Program} (w : World) (t e : TypeId) (n : Nat) (cs : Array Value) (k : IntKind) (i : Nat) (v : Value) (d : TypeDesc) (h : P.underlying t = some (.array n e)) (hd : P.underlying e = some d) (ha : (match d with | .struct _ | .array _ _ => false | _ => true) = true)
    (hs : (P.info? e).map (·.size) = some 1) (hi : i < n) (hv : cs[i]? = some v) : (Instr.index t (.agg cs) (.int k i)).run P w = .ok v w := by
  obtain ⟨inf, hinf, hsz⟩ := Option.map_eq_some_iff.1 hs
  have hi0 : (0 : Int) ≤ i ∧ (i : Int) < n := by omega
  have hsz' : (sizeOf e).run P w = .ok 1 w := by simp [sizeOf, typeInfo, hinf, hsz]
  have hagg : (isAgg e).run P w = .ok false w := by cases d <;> simp [isAgg, run_underlying hd] at ha ⊢
  simp [Instr.index, asIntOf, run_underlying h, hi0, hsz', part, hagg, hv]
  intro h; omega
end Go.Aff
namespace Go.Sha
open Go Go.Aff
def dg (T : Nat → Int) (j : Nat) : Int := T (j / 4) / 2 ^ (24 - 8 * (j % 4)) % 256
def digB (T : Nat → Int) : List Int := (List.range 32).map (dg T)
def digL (T : Nat → Int) (n : Nat) : List Value := (List.range 32).map fun j => Value.int .u8 (if j < n then dg T j else 0)
theorem digL_zero (T : Nat → Int) : digL T 0 = List.replicate 32 (Value.int .u8 0) := by simp [digL, List.range_succ]
theorem digL_all (T : Nat → Int) : digL T 32 = vb (digB T) := by
  unfold digL vb digB
  rw [List.map_map]
  apply List.map_congr_left
  intro j hj
  rw [List.mem_range] at hj
  simp [hj]
theorem digL_set (T : Nat → Int) (n : Nat) : (digL T n).set n (.int .u8 (dg T n)) = digL T (n + 1) := by
  apply List.ext_getElem?
  intro j
  simp only [digL, List.getElem?_set, List.length_map, List.length_range, List.getElem?_map]
  by_cases hj : j < 32
  · by_cases h : n = j
    · subst h; simp [hj]
    · simp only [h, if_false]
      have : (j < n + 1) = (j < n) := by apply propext; omega
      simp [hj, this]
  · by_cases h : n = j
    · subst h; simp [hj]
    · simp [hj, h]
def sumF (S : Nat → Int) (nb : Nat) (X : List Int) : List Int :=
  digB (stN S (X ++ padF (64 * nb + X.length)) ((X.length + padLen (64 * nb + X.length)) / 64))
theorem sumF_length (S : Nat → Int) (nb : Nat) (X : List Int) : (sumF S nb X).length = 32 := by simp [sumF, digB]
theorem dg_bytes (T : Nat → Int) : IsBytes (digB T) := by
  intro x hx
  obtain ⟨j, _, rfl⟩ := List.mem_map.1 hx
  unfold dg; omega
end Go.Sha
namespace Go.Proofs.YtplleficmkfniaaGreatDoor
open Go Go.RowKit Go.Sha Go.Aff
def SumRel (w : World) (N M : Nat) (T : Nat → Int) (n : Nat) (wr : World) : Prop :=
  Blk wr M 23 (digL T n) ∧ Blk wr N 23 (List.replicate 32 (Value.int .u8 0)) ∧ Keeps (fun _ => False) w wr ∧ w.heap.size ≤ N ∧ w.heap.size ≤ M ∧ N ≠ M
theorem sum_any (w : World) (hG : Glob w) (p : Nat) (v : Value) (S : Nat → Int) (nb : Nat) (X : List Int) (h : HashAt w p v S nb X) (hbig : 64 * nb + X.length < 2305843009213693952) :
    Calls Tryz.prog 133 #[.pointer (some ⟨p, 0, none⟩)] w fun e w' => e = .returned (.agg (vb (sumF S nb X)).toArray) ∧ Keeps (fun _ => False) w w' := by
  obtain ⟨A0, c0, rfl⟩ := own_shape h.2.1
  have hn2 := hG.lt
  have HG := H_ hG
  have HV := H_ h
  clear hG h
  obtain ⟨PL, hPL⟩ : ∃ PL, PL = padLen (64 * nb + X.length) := ⟨_, rfl⟩
  obtain ⟨PF, hPF⟩ : ∃ PF, PF = padF (64 * nb + X.length) := ⟨_, rfl⟩
  have HPL := H_ hPL
  have HPF := H_ hPF
  have hPLb : PL ≤ 72 := by rw [hPL]; exact (padLen_ge _).2
  have HPFL : Hid (PF.length = PL) := by rw [hPF, hPL]; exact padK_length _ 8 (by omega)
  clear hPL hPF
  have HCO : Hid (∀ W, Keeps (fun _ => False) w W → Calls Tryz.prog 181 #[.pointer (some ⟨p, 0, none⟩)] W (Copied W S nb X)) :=
    fun W hk => sh_copy_any W p _ S nb X (HV.out.keep hk (fun _ _ h => h))
  have HLE : Hid (∀ W, Keeps (fun _ => False) w W → Calls Tryz.prog 183 #[.pointer (some ⟨p, 0, none⟩)] W fun e w' => e = .returned (.int .u64 ((64 * nb + X.length : Nat) : Int)) ∧ ∃ k, w' = W.drewN k) := by
    intro W hk
    have hb := (HV.out.keep hk (fun _ _ h => h)).1
    refine (sh_len_any W p _ _ A0 _ c0 hb (by omega) (by omega) (by omega)).mono fun e w' hh => ⟨?_, hh.2⟩
    rw [hh.1]
    congr 3
    omega
  have HPA : Hid (∀ W, Calls Tryz.prog 182 #[.int .u64 ((64 * nb + X.length : Nat) : Int)] W fun e w' => e = .returned (.slice (some ⟨W.heap.size, 0, none⟩) PL PL) ∧ Blk w' W.heap.size 5 (vb PF) ∧ Keeps (fun _ => False) W w') := by
    intro W
    have := pad_any W (64 * nb + X.length) hbig
    rw [← HPL.out, ← HPF.out] at this
    exact this
  have HWR : Hid (∀ (wb w1 : World) (n2 : Nat) (w3 : World), Glob wb → ∀ (q : Nat) (u : Value), Keeps (fun _ => False) wb w1 → (∀ i, Foot q u i → wb.heap.size ≤ i) → HashAt w1 q u S nb X → Blk w3 (w1.drewN n2).heap.size 5 (vb PF) → Keeps (fun _ => False) (w1.drewN n2) w3 →
      Calls Tryz.prog 132 #[.pointer (some ⟨q, 0, none⟩), .slice (some ⟨w1.heap.size, 0, none⟩) PL PL] w3 fun e w4 => e = .returned (.tuple #[]) ∧
        (∃ v', Blk w4 q 311 (hcells (stN S (X ++ PF) ((X.length + PL) / 64)) ((nb + (X.length + PL) / 64 : Nat) : Int) v')) ∧ Keeps (fun _ => False) wb w4) := by
    intro wb w1 n2 w3 hg q u hk1 hf1 hh1 hb3 hk3
    have hh2 : HashAt (w1.drewN n2) q u S nb X := hh1
    have hh3 := hh2.keep hk3 (fun _ _ h => h)
    have hb2 := hg.lt
    have hk13 : Keeps (fun _ => False) wb w3 := (hk1.drewN n2).trans hk3 (fun _ _ h => h)
    have hr : Rd w3 (some ⟨w1.heap.size, 0, none⟩) PF.length (vb PF) := Rd.of_blk hb3 (by simp [vb])
    have ho : Out (Foot q u) (some ⟨w1.heap.size, 0, none⟩) PF.length := by
      intro _ ad e hf
      injection e with e
      subst e
      exact Nat.lt_irrefl _ (hh1.lt _ hf)
    have hl := HPFL.out
    have := write_any w3 (hg.keep hk13 (fun _ h => h.elim)) q u S nb X hh3 (fun i hi => by have := hf1 i hi; omega) (some ⟨w1.heap.size, 0, none⟩) PL PF hr ho (by rw [HPF.out]; exact padF_bytes _) (by omega) (by omega) (by omega)
    rw [hl] at this
    refine this.mono fun e w4 ⟨he, v', hh, hk, _⟩ => ⟨he, ⟨v', ?_⟩, hk13.trans hk (fun i hi hf => by have := hf1 i hf; omega)⟩
    have := hh.1
    rw [List.length_append, hl] at this
    exact this
  obtain ⟨L, hL⟩ : ∃ L : Int, L = ((64 * nb + X.length : Nat) : Int) := ⟨_, rfl⟩
  rw [← hL] at HLE HPA
  clear hL
  go_enter Tryz.func133, Tryz.ntmps133
  go_wp2_with (first
    | (go_at_call 181; refine (HCO.out _ ((Keeps.refl _ _).alloc _)).mono ?_; rintro e w1 ⟨q, u, rfl, hh1, hk1, hf1⟩; have HH1 := H_ hh1; have HK1 := H_ hk1; have HF1 := H_ hf1; clear hh1 hk1 hf1)
    | (go_at_call 183; refine (HLE.out _ (((Keeps.refl (fun _ => False) w).alloc _).trans HK1.out (fun _ _ h => h))).mono ?_; rintro e w2 ⟨rfl, n2, rfl⟩)
    | (go_at_call 182; refine (HPA.out _).mono ?_; rintro e w3 ⟨rfl, hb3, hk3⟩; have HB3 := H_ hb3; have HK3 := H_ hk3; clear hb3 hk3)
    | (go_at_call 132; refine (HWR.out _ _ _ _ (HG.out.keep ((Keeps.refl (fun _ => False) w).alloc _) (fun _ h => h.elim)) _ _ HK1.out HF1.out HH1.out HB3.out HK3.out).mono ?_; rintro e w4 ⟨rfl, ⟨v4, hb4⟩, hk4⟩; have HB4 := H_ hb4; have HK4 := H_ hk4; clear hb4 hk4; have HL4 := H_ (Lies.of_blk (vs := wl (stN S (X ++ PF) ((X.length + PL) / 64))) (o := 0) (HB4.out.alloc (.cells (List.replicate 32 (Value.int .u8 0)).toArray 23)) (by simp [hcells, wl])))
    | ((with_reducible show wpList _ _ _ (⟨some _, Op.load 254 _, _, _, _, _⟩ :: _) _ _); refine wpList_load_lies rfl 254 _ rfl 0 (wl (stN S (X ++ PF) ((X.length + PL) / 64))) _ rfl HL4.out Tryz.underlying254 rfl sh_info8 ?_))
  have R0 : SumRel w w.heap.size w4.heap.size (stN S (X ++ PF) ((X.length + PL) / 64)) 0 (w4.alloc (.cells (List.replicate 32 (Value.int .u8 0)).toArray 23)) := by
    have hk4 := HK4.out
    have hz := hk4.blk (Blk.new w 23 (List.replicate 32 (Value.int .u8 0))) (fun h => h)
    refine ⟨by rw [digL_zero]; exact Blk.new _ _ _, hz.alloc _, (((Keeps.refl (fun _ => False) w).alloc _).trans hk4 (fun _ _ h => h)).alloc _, Nat.le_refl _, ?_, by have := hz.lt; omega⟩
    have := hz.lt; omega
  obtain ⟨T, hT⟩ : ∃ T, T = stN S (X ++ PF) ((X.length + PL) / 64) := ⟨_, rfl⟩
  rw [← hT] at R0 ⊢
  have HT := H_ hT
  clear hT
  go_loopw [5, 6, 7, 22] (fun _ _ _ i wr => ∃ t : Nat, t ≤ 8 ∧ i = .int .i64 t ∧ SumRel w w.heap.size w4.heap.size T (4 * t) wr) (fun _ _ _ i _ => 8 - (intOf i).toNat)
  case atStart => exact ⟨0, by omega, rfl, R0⟩
  case round =>
    clear R0
    obtain ⟨t, ht, rfl, hr⟩ := hrel
    by_cases hlt : t < 8
    · have hix := fun wx => run_index_row (P := Tryz.prog) wx 254 253 8 (wl T).toArray .i64 t (.int .u32 (T t)) _ Tryz.underlying254 Tryz.underlying253 rfl (by kernel_rfl) hlt (by simp [wl, hlt])
      go_wp2
      go_loopw [7, 26] (fun _ i wr => ∃ k : Nat, k ≤ 4 ∧ i = .int .i64 k ∧ SumRel w w.heap.size w4.heap.size T (4 * t + k) wr) (fun _ i _ => 4 - (intOf i).toNat)
      case atStart => exact ⟨0, by omega, rfl, hr⟩
      case round =>
        clear hr
        obtain ⟨k, hk, rfl, hr⟩ := hrel
        by_cases hlk : k < 4
        · have hc : wr.cell? ⟨w4.heap.size, 4 * t + k, none⟩ = some (.int .u8 0) := by
            rw [hr.1.cell]; simp [digL, show 4 * t + k < 32 by omega]
          have hf := hr.1.frozen (4 * t + k)
          have hR := H_ hr
          clear hr
          go_wp2
          go_roundw
          case rel =>
            obtain ⟨h1, h2, h3, h4, h5, h6⟩ := hR.out
            have e : T t / 2 ^ (24 - 8 * k) % 256 = dg T (4 * t + k) := by
              unfold dg
              rw [show (4 * t + k) / 4 = t by omega, show (4 * t + k) % 4 = k by omega]
            rw [e]
            refine ⟨k + 1, by omega, by go_num, ?_⟩
            have h7 := h1.set_ (4 * t + k) (.int .u8 (dg T (4 * t + k)))
            rw [digL_set] at h7
            exact ⟨h7, h2.far h6 _, h3.setCell (.inr h5) _, h4, h5, h6⟩
          case measure => simp [intOf]; omega
        · obtain rfl : k = 4 := by omega
          go_wp2
          go_roundw
          case rel => exact ⟨t + 1, by omega, by go_num, hr⟩
          case measure => simp [intOf]; omega
    · obtain rfl : t = 8 := by omega
      obtain ⟨h1, h2, h3, h4, h5, h6⟩ := hr
      go_wp2_with (first | ((with_reducible show wpList _ _ _ (⟨some _, Op.load 23 _, _, _, _, _⟩ :: _) _ _); refine wpList_load_whole rfl 23 _ rfl _ rfl h1 Tryz.underlying23 rfl (by kernel_rfl) ?_) | ((with_reducible show wpList _ _ _ (⟨none, Op.store 23 _ _, _, _, _, _⟩ :: _) _ _); refine wpList_store_whole rfl 23 _ _ rfl (digL T 32) rfl rfl h2 (by simp [digL]) (by kernel_rfl) (by intro v hv; obtain ⟨i, _, rfl⟩ := List.mem_map.1 hv; rfl) ?_))
      refine bodyPost_ret (results_blk rfl _ _ rfl (h2.setRow (digL T 32)) Tryz.underlying23 rfl (by kernel_rfl)) rfl ⟨?_, h3.setRow (.inr h4) _⟩
      rw [digL_all]
      unfold sumF
      rw [HT.out, HPF.out, HPL.out]
def RdParts (w : World) (A : Option Addr) (pss : List (List Int)) : Prop :=
  ∃ vals : List Value, Rd w A pss.length vals ∧ ∀ (i : Nat) (bs : List Int), pss[i]? = some bs → ∃ A' c', vals[i]? = some (Value.slice A' bs.length c') ∧ Rd w A' bs.length (vb bs) ∧ IsBytes bs ∧ bs.length ≤ c'
def SumsRel (w : World) (N q : Nat) (pss : List (List Int)) (i : Nat) (wr : World) : Prop :=
  ∃ v, HashAt wr q v first 0 (pss.take i).flatten ∧ Keeps (fun _ => False) w wr ∧ (∀ j, Foot q v j → N < j) ∧ w.heap.size ≤ N ∧ Blk wr N 23 (List.replicate 32 (Value.int .u8 0))
theorem hash_new (w : World) : HashAt (w.alloc (.cells (hcells first 0 (.slice none 0 0)).toArray 311)) w.heap.size (.slice none 0 0) first 0 [] :=
  ⟨Blk.new w 311 (hcells first 0 (.slice none 0 0)), World.ownsRow_nil _ _ _ _, fun x hx => by cases hx⟩
theorem flatten_take_le (pss : List (List Int)) (i : Nat) : (pss.take i).flatten.length ≤ pss.flatten.length := by
  rw [← List.take_append_drop i pss, List.flatten_append, List.take_append_drop]
  simp
theorem part_le (pss : List (List Int)) (i : Nat) (bs : List Int) (h : pss[i]? = some bs) : (pss.take i).flatten.length + bs.length ≤ pss.flatten.length := by
  have e : (pss.take (i + 1)).flatten = (pss.take i).flatten ++ bs := by
    rw [List.take_add_one, h]; simp
  have := flatten_take_le pss (i + 1)
  rw [e, List.length_append] at this
  exact this
theorem sums_big (w : World) (hG : Glob w) (A : Option Addr) (c : Nat) (pss : List (List Int)) (h : RdParts w A pss) (hn : pss.length ≤ 140737488355328) (hbig : pss.flatten.length < 2305843009213693952) (hreach : ∀ bs ∈ pss, bs.length ≤ 140737488351232) :
    Calls Tryz.prog 63 #[.slice A pss.length c] w fun e w' => e = .returned (.agg (vb (sumF first 0 pss.flatten)).toArray) ∧ Keeps (fun _ => False) w w' := by
  obtain ⟨vals, hr, hp⟩ := h
  have hn2 := hG.lt
  have HG := H_ hG
  have HR := H_ hr
  have HP := H_ hp
  clear hG hr hp
  obtain ⟨n, hnn⟩ : ∃ n, n = pss.length := ⟨_, rfl⟩
  have HN := H_ hnn
  rw [← hnn] at hn ⊢
  clear hnn
  go_enter Tryz.func63, Tryz.ntmps63
  go_wp2_with (first
    | (go_at_call 131; refine (sh_new_any _ (HG.out.keep ((Keeps.refl (fun _ => False) w).alloc _) (fun _ h => h.elim))).mono ?_; rintro e w1 ⟨rfl, rfl⟩))
  have R0 : SumsRel w w.heap.size (w.heap.size + 1) pss 0 ((w.alloc (.cells (List.replicate 32 (Value.int .u8 0)).toArray 23)).alloc (.cells (hcells first 0 (.slice none 0 0)).toArray 311)) := by
    have h1 := hash_new (w.alloc (.cells (List.replicate 32 (Value.int .u8 0)).toArray 23))
    rw [World.size_alloc] at h1
    refine ⟨.slice none 0 0, h1, ((Keeps.refl _ _).alloc _).alloc _, ?_, Nat.le_refl _, (Blk.new _ _ _).alloc _⟩
    intro j hj
    rcases hj with rfl | hj
    · omega
    · cases hj
  go_loopw [5, 9] (fun _ i wr => ∃ k : Nat, k ≤ n ∧ i = .int .i64 k ∧ SumsRel w w.heap.size (w.heap.size + 1) pss k wr) (fun _ i _ => n - (intOf i).toNat)
  case atStart => exact ⟨0, by omega, rfl, R0⟩
  case round =>
    clear R0
    obtain ⟨k, hk, rfl, hr⟩ := hrel
    by_cases hlt : k < n
    · obtain ⟨v, hv, hkp, hft, hN0, hz⟩ := hr
      have hlt' : k < pss.length := by have := HN.out; omega
      obtain ⟨bs, hbs⟩ : ∃ bs, pss[k]? = some bs := ⟨_, List.getElem?_eq_getElem hlt'⟩
      obtain ⟨A1, c1, hvk, hr1, hb1, hc1⟩ := HP.out k bs hbs
      obtain ⟨g, o, hA, hcell⟩ := HR.out.2 (by omega)
      subst hA
      have hcw : wr.cell? ⟨g, o + k, none⟩ = some (.slice A1 bs.length c1) := by
        have h1 := (hcell k hlt').trans hvk
        exact (hkp.cell (p := ⟨g, o + k, none⟩) (World.block_lt_of_cell? w _ h1) (fun h => h)).trans h1
      have hle := part_le pss k bs hbs
      have hrb := hreach bs (List.mem_of_getElem? hbs)
      have hXb : IsBytes (pss.take k).flatten := hv.2.2
      have hwr : Calls Tryz.prog 132 #[.pointer (some ⟨w.heap.size + 1, 0, none⟩), .slice A1 bs.length c1] wr fun e w' => e = .returned (.tuple #[]) ∧ SumsRel w w.heap.size (w.heap.size + 1) pss (k + 1) w' := by
        have ho : Out (Foot (w.heap.size + 1) v) A1 bs.length := by
          intro h0 ad e hf
          obtain ⟨g1, o1, e1, hg1⟩ := hr1.lt h0
          rw [e] at e1
          injection e1 with e1
          subst e1
          have := hft _ hf
          exact absurd hg1 (by show ¬ g1 < w.heap.size; have h2 : w.heap.size < g1 := this; omega)
        have := write_any wr (HG.out.keep hkp (fun _ h => h.elim)) (w.heap.size + 1) v first 0 _ hv (fun i hi => by have := hft i hi; omega) A1 c1 bs (hr1.keep hkp (fun _ _ _ h => h)) ho hb1 hc1 (by omega) (by omega)
        refine this.mono fun e w' ⟨he, v', hh, hk', hnew⟩ => ⟨he, v', ?_, hkp.trans hk' (fun i hi hf => by have := hft i hf; omega), ?_, hN0, hk'.blk hz (fun hf => by have := hft _ hf; omega)⟩
        · have e2 : (pss.take (k + 1)).flatten = (pss.take k).flatten ++ bs := by rw [List.take_add_one, hbs]; simp
          rw [e2]; exact hh
        · intro j hj
          rcases hj with rfl | hj
          · omega
          · rcases hnew j hj with h | h
            · exact hft j (.inr h)
            · have := hz.lt; omega
      have HW := H_ hwr
      clear hwr hv hkp hft hz hr1 hb1 hc1 hXb hcell
      go_wp2_with (go_at_call 132; refine HW.out.mono ?_; rintro e w' ⟨rfl, hr'⟩; have HR' := H_ hr'; clear hr')
      go_roundw
      case rel => exact ⟨k + 1, by omega, by go_num, HR'.out⟩
      case measure => simp [intOf]; omega
    · obtain rfl : k = n := by omega
      obtain ⟨v, hv, hkp, hft, hN0, hz⟩ := hr
      have e3 : (pss.take k).flatten = pss.flatten := by rw [HN.out, List.take_length]
      rw [e3] at hv
      have hsum := (sum_any wr (HG.out.keep hkp (fun _ h => h.elim)) (w.heap.size + 1) v first 0 _ hv (by omega))
      have HS := H_ hsum
      have HK := H_ hkp
      have HZ := H_ hz
      clear hsum hv hkp hft hz
      go_wp2_with (first | (go_at_call 133; refine HS.out.mono ?_; rintro e w' ⟨rfl, hk'⟩; have HK' := H_ hk'; have HZ' := H_ (hk'.blk HZ.out (fun h => h)); clear hk') | ((with_reducible show wpList _ _ _ (⟨none, Op.store 23 _ _, _, _, _, _⟩ :: _) _ _); refine wpList_store_whole rfl 23 _ _ rfl (vb (sumF first 0 pss.flatten)) rfl rfl HZ'.out (by simp [vb, sumF_length]) (by rw [show (vb (sumF first 0 pss.flatten)).length = 32 by simp [vb, sumF_length]]; kernel_rfl) (vb_one _) ?_))
      refine bodyPost_ret (results_blk rfl _ _ rfl (HZ'.out.setRow (vb (sumF first 0 pss.flatten))) Tryz.underlying23 rfl (by rw [show (vb (sumF first 0 pss.flatten)).length = 32 by simp [vb, sumF_length]]; kernel_rfl)) rfl ⟨rfl, (HK.out.trans HK'.out (fun _ _ h => h)).setRow (.inr hN0) _⟩
theorem flat_mem {pss : List (List Int)} {bs : List Int} (h : bs ∈ pss) : bs.length ≤ pss.flatten.length := by
  obtain ⟨i, hi⟩ := List.getElem?_of_mem h
  have := part_le pss i bs hi
  omega
theorem sums_any (w : World) (hG : Glob w) (A : Option Addr) (c : Nat) (pss : List (List Int)) (h : RdParts w A pss) (hn : pss.length ≤ 140737488355328) (hbig : pss.flatten.length ≤ 140737488351232) :
    Calls Tryz.prog 63 #[.slice A pss.length c] w fun e w' => e = .returned (.agg (vb (sumF first 0 pss.flatten)).toArray) ∧ Keeps (fun _ => False) w w' :=
  sums_big w hG A c pss h hn (by omega) (fun bs hb => Nat.le_trans (flat_mem hb) hbig)
end Go.Proofs.YtplleficmkfniaaGreatDoor
namespace Go.Sha
open Go Go.Aff
end Go.Sha
namespace Go.Proofs.YtplleficmkfniaaGreatDoor
open Go Go.RowKit Go.Sha Go.Aff
theorem digest_eql (w : World) (xs ys : List Int) (hx : xs.length = 32) (hy : ys.length = 32) : (binOp .eql 23 (.agg (vb xs).toArray) (.agg (vb ys).toArray)).run Tryz.prog w = .ok (.bool (decide (xs = ys))) w :=
  run_eql_row w Tryz.underlying23 Tryz.underlying5 (by kernel_rfl) xs ys hx hy
end Go.Proofs.YtplleficmkfniaaGreatDoor
namespace Go.Aff
open Go Go.RowKit
theorem stepH_store {P : Program} {Q : Exit → Act → World → Prop} {K : Act → World → Prop} {ops : Array Oper} {a : Act} {w : World} {o : Oper} {g : Nat} {t : TypeId} {cs : List Value} (hgd : o.guard = none) (ty : TypeId) (x v : Operand) (ho : o.op = .store ty x v)
    (vs : List Value) (hx : a.eval x = .pointer (some ⟨g, 0, none⟩)) (hv : a.eval v = .agg vs.toArray) (hg : Blk w g t cs) (hl : cs.length = vs.length) (hi : (P.info? ty).map (·.size) = some vs.length) (h1 : ∀ v ∈ vs, v.oneCell' = true)
    (h : K (a.put o.dst undef) (w.setRow g vs.toArray)) : if Region.wanted o (yielded ops a.tmps) = true then Oper.wp P o a w K Q else K (a.put o.dst undef) w := by
  have hw : Region.wanted o (yielded ops a.tmps) = true := by simp [Region.wanted, hgd]
  rw [if_pos hw]
  have hst := run_storeVar_at (P := P) ty 0 vs hg (by omega) hi h1
  rw [splice_all _ _ hl] at hst
  unfold Oper.wp execOp
  simp only [ho, hx, hv, Instr.storeAt, Instr.sureAddr, Sem.run_bind, Sem.run_pure, Result.andThen_ok, hst]
  exact h
end Go.Aff
namespace Go.Proofs.YtplleficmkfniaaGreatDoor
open Go Go.RowKit Go.Sha Go.Aff
theorem hcells_one (S : Nat → Int) (nb : Int) (A : Option Addr) (n c : Nat) : ∀ u ∈ hcells S nb (.slice A n c), u.oneCell' = true := by
  intro u hu
  rcases List.mem_append.1 hu with h | h
  · obtain ⟨i, _, rfl⟩ := List.mem_map.1 h; rfl
  · simp at h; rcases h with rfl | rfl <;> rfl
def RdPartsO (F : Nat → Prop) (w : World) (A : Option Addr) (pss : List (List Int)) : Prop :=
  ∃ vals : List Value, Rd w A pss.length vals ∧ Out F A pss.length ∧ ∀ (i : Nat) (bs : List Int), pss[i]? = some bs →
    ∃ A' c', vals[i]? = some (Value.slice A' bs.length c') ∧ Rd w A' bs.length (vb bs) ∧ Out F A' bs.length ∧ IsBytes bs ∧ bs.length ≤ c' ∧ bs.length ≤ 140737488351232
theorem RdPartsO.keep {F G : Nat → Prop} {w w' : World} {A : Option Addr} {pss : List (List Int)} (h : RdPartsO F w A pss) (hk : Keeps G w w') (hG : ∀ i, G i → F i) : RdPartsO F w' A pss := by
  obtain ⟨vals, h1, h2, h3⟩ := h
  refine ⟨vals, h1.keep hk (h2.mono hG), h2, fun i bs hi => ?_⟩
  obtain ⟨A', c', a, b, c, d⟩ := h3 i bs hi
  exact ⟨A', c', a, b.keep hk (c.mono hG), c, d⟩
theorem parts_of (F : Nat → Prop) (w : World) (T : TypeId) (vals : List Value) (pss : List (List Int)) (hF : ∀ i, F i → i < w.heap.size) (hl : vals.length = pss.length)
    (h : ∀ (i : Nat) (bs : List Int), pss[i]? = some bs → ∃ A c, vals[i]? = some (Value.slice A bs.length c) ∧ Rd w A bs.length (vb bs) ∧ Out F A bs.length ∧ IsBytes bs ∧ bs.length ≤ c ∧ bs.length ≤ 140737488351232) :
    RdPartsO F (w.alloc (.cells vals.toArray T)) (some ⟨w.heap.size, 0, none⟩) pss := by
  refine ⟨vals, Rd.of_blk (Blk.new w T vals) hl, ?_, fun i bs hi => ?_⟩
  · intro _ ad e hf
    injection e with e
    subst e
    exact Nat.lt_irrefl _ (hF _ hf)
  · obtain ⟨A, c, h1, h2, h3⟩ := h i bs hi
    exact ⟨A, c, h1, h2.alloc _, h3⟩
theorem parts_one (F : Nat → Prop) (w : World) (T : TypeId) (A : Option Addr) (n c : Nat) (bs : List Int) (hF : ∀ i, F i → i < w.heap.size) (hn : bs.length = n) (hr : Rd w A n (vb bs)) (ho : Out F A n) (hb : IsBytes bs) (hc : n ≤ c) (hm : n ≤ 140737488351232) :
    RdPartsO F (w.alloc (.cells #[.slice A n c] T)) (some ⟨w.heap.size, 0, none⟩) [bs] := by
  subst hn
  refine parts_of F w T [.slice A bs.length c] [bs] hF rfl (fun i b hi => ?_)
  cases i with
  | zero => simp at hi; subst hi; exact ⟨A, c, rfl, hr, ho, hb, hc, hm⟩
  | succ i => simp at hi
theorem parts_two (F : Nat → Prop) (w : World) (T : TypeId) (A A' : Option Addr) (n c n' c' : Nat) (bs bs' : List Int) (hF : ∀ i, F i → i < w.heap.size) (hn : bs.length = n) (hr : Rd w A n (vb bs)) (ho : Out F A n) (hb : IsBytes bs) (hc : n ≤ c) (hm : n ≤ 140737488351232)
    (hn' : bs'.length = n') (hr' : Rd w A' n' (vb bs')) (ho' : Out F A' n') (hb' : IsBytes bs') (hc' : n' ≤ c') (hm' : n' ≤ 140737488351232) :
    RdPartsO F (w.alloc (.cells #[.slice A n c, .slice A' n' c'] T)) (some ⟨w.heap.size, 0, none⟩) [bs, bs'] := by
  subst hn hn'
  refine parts_of F w T [.slice A bs.length c, .slice A' bs'.length c'] [bs, bs'] hF rfl (fun i b hi => ?_)
  match i, hi with
  | 0, hi => simp at hi; subst hi; exact ⟨A, c, rfl, hr, ho, hb, hc, hm⟩
  | 1, hi => simp at hi; subst hi; exact ⟨A', c', rfl, hr', ho', hb', hc', hm'⟩
  | i + 2, hi => simp at hi
theorem RdPartsO.plain {F : Nat → Prop} {w : World} {A : Option Addr} {pss : List (List Int)} (h : RdPartsO F w A pss) : RdParts w A pss := by
  obtain ⟨vals, h1, _, h3⟩ := h
  refine ⟨vals, h1, fun i bs hi => ?_⟩
  obtain ⟨A', c', a, b, _, d, e, _⟩ := h3 i bs hi
  exact ⟨A', c', a, b, d, e⟩
theorem no_out (A : Option Addr) (n : Nat) : Out (fun _ => False) A n := fun _ _ _ h => h
theorem sums_one (w : World) (hG : Glob w) (A : Option Addr) (n c : Nat) (bs : List Int) (hn : bs.length = n) (hr : Rd w A n (vb bs)) (hb : IsBytes bs) (hc : n ≤ c) (hm : n ≤ 140737488351232) :
    Calls Tryz.prog 63 #[.slice (some ⟨w.heap.size, 0, none⟩) 1 1] (w.alloc (.cells #[.slice A n c] 48)) fun e w' => e = .returned (.agg (vb (sumF first 0 bs)).toArray) ∧ Keeps (fun _ => False) w w' := by
  have hp := (parts_one (fun _ => False) w 48 A n c bs (fun _ h => h.elim) hn hr (no_out _ _) hb hc hm).plain
  have := sums_any _ (hG.keep ((Keeps.refl (fun _ => False) w).alloc (.cells #[.slice A n c] 48)) (fun _ h => h.elim)) _ 1 [bs] hp (by simp) (by simp; omega)
  simp only [List.length_cons, List.length_nil, List.flatten_cons, List.flatten_nil, List.append_nil] at this
  exact this.mono fun e w' ⟨he, hk⟩ => ⟨he, ((Keeps.refl _ w).alloc _).trans hk (fun _ _ h => h)⟩
abbrev errno (n : Int) : Value := .iface 85 (.int .i64 n)
end Go.Proofs.YtplleficmkfniaaGreatDoor
