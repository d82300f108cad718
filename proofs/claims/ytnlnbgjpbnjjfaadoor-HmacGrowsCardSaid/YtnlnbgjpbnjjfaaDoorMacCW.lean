/-
  WALKS: hmac: Len, Copy, Reset of a Mac.
-/
import Derived.Test.YtnlnbgjpbnjjfaaDoorMacSW
set_option linter.unusedSimpArgs false
namespace Go.Proofs.YtnlnbgjpbnjjfaaDoor
open Go Go.RowKit Go.Sha Go.Aff Go.Mac

set_option maxRecDepth 100000 in
theorem mlen_any (w wr : World) (p q : Nat) (v : Value) (key msg : List Int) (h : OMac w wr p q v key msg) :
    Calls Tryd.prog 35 #[.pointer (some ⟨p, 0, none⟩)] wr fun e w' => e = .returned (.int .i64 msg.length) ∧ w' = wr := by
  have c1 : wr.cell? ⟨p, 1, none⟩ = some (.int .i64 msg.length) := by rw [h.blk.cell]; rfl
  obtain ⟨m, hm⟩ : ∃ m, m = msg.length := ⟨_, rfl⟩
  rw [← hm] at c1 ⊢
  clear h hm
  go_enter Tryd.func35, Tryd.ntmps35
  go_wp2
  go_ret
  exact ⟨rfl, rfl⟩

theorem mcells_one (q : Nat) (n : Int) (K : List Int) : ∀ u ∈ mcells q n K, u.oneCell' = true := by
  intro u hu
  unfold mcells at hu
  rcases List.mem_cons.mp hu with rfl | hu
  · rfl
  · rcases List.mem_cons.mp hu with rfl | hu
    · rfl
    · exact vb_one _ u hu
theorem infoMac : (Tryd.prog.info? 89).map (·.size) = some 66 := by kernel_rfl

set_option maxHeartbeats 2000000 in
set_option maxRecDepth 100000 in
/-- A copy: newer than the world in which it is made. -/
theorem mcopy_any (w wr : World) (p q : Nat) (v : Value) (key msg : List Int) (h : OMac w wr p q v key msg) :
    Calls Tryd.prog 32 #[.pointer (some ⟨p, 0, none⟩)] wr fun e w' => ∃ p2 q2 v2, e = .returned (.pointer (some ⟨p2, 0, none⟩)) ∧ OMac wr w' p2 q2 v2 key msg := by
  have HCP : Hid (∀ W, Keeps (fun _ => False) wr W → Calls Tryd.prog 52 #[.pointer (some ⟨q, 0, none⟩)] W fun e w' => ∃ q2 v2, e = .returned (.pointer (some ⟨q2, 0, none⟩)) ∧ HashAt w' q2 v2 first 0 (inB key ++ msg) ∧ Keeps (fun _ => False) W w' ∧ ∀ i, Foot q2 v2 i → W.heap.size ≤ i) := Lib.hid fun W hk =>
    (copy_any W q v first 0 _ (h.own.1.keep hk (fun _ _ h => h))).mono fun e w' hc => by
      obtain ⟨q2, u, he, ho, hk', hf⟩ := Own.copied (Keeps.refl _ W) hc
      exact ⟨q2, u, he, ho.1, hk', hf⟩
  have hb := h.blk
  have hkl := keyB_length key
  obtain ⟨MC, hMC⟩ : ∃ MC, MC = mcells q msg.length (keyB key) := ⟨_, rfl⟩
  have HML : Hid (MC.length = 66) := Lib.hid (by rw [hMC, mcells_length _ _ _ hkl])
  have HM1 : Hid (∀ u ∈ MC, u.oneCell' = true) := Lib.hid (by rw [hMC]; exact mcells_one _ _ _)
  have HIN : Hid ((Tryd.prog.info? 89).map (·.size) = some MC.length) := Lib.hid (by rw [HML.out]; exact infoMac)
  have HSET : Hid (∀ q2 : Nat, MC.set 0 (.pointer (some ⟨q2, 0, none⟩)) = mcells q2 msg.length (keyB key)) := Lib.hid fun q2 => by rw [hMC]; rfl
  have HC0 : Hid (∀ (W : World) (g : Nat), Blk W g 89 MC → W.frozen? ⟨g, 0, none⟩ = false ∧ W.cell? ⟨g, 0, none⟩ = some (.pointer (some ⟨q, 0, none⟩))) := Lib.hid fun W g hB => ⟨hB.frozen 0, by rw [hB.cell, hMC]; rfl⟩
  rw [← hMC] at hb
  have c0 : wr.cell? ⟨p, 0, none⟩ = some (.pointer (some ⟨q, 0, none⟩)) := by rw [hb.cell, hMC]; rfl
  have HC := Lib.hid c0
  have HP : Hid (p < wr.heap.size) := Lib.hid hb.lt
  have HB := Lib.hid hb
  have HZL : Hid (Tryd.zeroCells89.toList.length = MC.length) := Lib.hid (by rw [HML.out, zeroMac]; rfl)
  have HZM : Hid (∀ W : World, Blk (W.alloc (.cells Tryd.zeroCells89 89)) W.heap.size 89 Tryd.zeroCells89.toList) := Lib.hid fun W => Blk.new _ _ _
  clear hb hkl h c0 hMC
  go_enter Tryd.func32, Tryd.ntmps32
  go_wp2_with (first
    | ((with_reducible show wpList _ _ _ (⟨some _, Op.load 89 _, _, _, _, _⟩ :: _) _ _); refine wpList_load_whole rfl 89 _ rfl _ rfl HB.out Tryd.underlying89 rfl HIN.out ?_)
    | ((with_reducible show wpList _ _ _ (⟨none, Op.store 89 _ _, _, _, _, _⟩ :: _) _ _); refine wpList_store_whole rfl 89 _ _ rfl MC rfl rfl (HZM.out wr) HZL.out HIN.out HM1.out ?_; have hb3 := (HZM.out wr).setRow MC; have hk3 := ((Keeps.refl (fun _ => False) wr).alloc (.cells Tryd.zeroCells89 89)).setRow (.inr (Nat.le_refl _)) MC.toArray; refine gen_world (fun W => Blk W wr.heap.size 89 MC ∧ Keeps (fun _ => False) wr W) ⟨hb3, hk3⟩ ?_; clear hb3 hk3; rintro W3 ⟨hb3, hk3⟩; have c3 : W3.cell? ⟨p, 0, none⟩ = some (.pointer (some ⟨q, 0, none⟩)) := (hk3.cell HP.out (fun h => h)).trans HC.out; have HB3 := Lib.hid hb3; have HK3 := Lib.hid hk3; clear hb3 hk3)
    | (go_at_call 52; refine (HCP.out _ HK3.out).mono ?_; rintro e w4 ⟨q2, v2, rfl, ha4, hk4, hf4⟩; obtain ⟨e4, d4⟩ := HC0.out w4 wr.heap.size (hk4.blk HB3.out (fun h => h)); have HB4 := Lib.hid (hk4.blk HB3.out (fun h => h)); have HA4 := Lib.hid ha4; have HK4 := Lib.hid hk4; have HF4 := Lib.hid hf4; clear ha4 hk4 hf4))
  go_ret
  have hs3 : wr.heap.size < W3.heap.size := HB3.out.lt
  have hne : ∀ i, Foot q2 v2 i → i ≠ wr.heap.size := fun i hi e => by have := HF4.out i hi; omega
  have hk5 : Keeps (fun i => i = wr.heap.size) w4 (w4.setCell ⟨wr.heap.size, 0, none⟩ (.pointer (some ⟨q2, 0, none⟩))) := Keeps.setCell (F := fun i => i = wr.heap.size) (Keeps.refl _ _) (.inl rfl) _
  refine ⟨wr.heap.size, q2, v2, rfl, ?_, ⟨HA4.out.keep hk5 (fun i hi => hne i hi), ?_, fun i hi => ?_⟩, Nat.le_refl _⟩
  · rw [← HSET.out q2]
    exact HB4.out.set_ 0 _
  · exact (HK3.out.trans HK4.out (fun _ _ h => h)).trans hk5 (fun i hi h => by omega)
  · have := HF4.out i hi
    omega

set_option maxHeartbeats 2000000 in
set_option maxRecDepth 100000 in
/-- A Mac begins anew. -/
theorem mreset_any (w : World) (hG : Glob w) (wr : World) (p q : Nat) (v : Value) (key msg : List Int) (h : OMac w wr p q v key msg) (hkb : IsBytes key) :
    Calls Tryd.prog 36 #[.pointer (some ⟨p, 0, none⟩)] wr fun e w' => ∃ q2 v2, e = .returned .nilIface ∧ OMac w w' p q2 v2 key [] ∧ Keeps (fun i => i = p) wr w' ∧ (∀ i, Foot q2 v2 i → wr.heap.size ≤ i) := by
  have hGr := hG.keep h.own.2.1 (fun _ h => h.elim)
  have HBG := Lib.hid (begun_any wr hGr (keyB key) (keyB_length key) (keyB_bytes hkb) 0x36 (by omega))
  have HL : Hid (Lies wr p 2 (vb (keyB key))) := Lib.hid (Lies.of_blk h.blk (by simp [mcells]))
  have HKL : Hid ((vb (keyB key)).length = 64) := Lib.hid (by rw [vb_length, keyB_length])
  have HFIN : Hid (∀ (w2 : World) (q2 : Nat) (v2 : Value), Own wr w2 q2 v2 first 0 (xorB (keyB key) 0x36) →
      Blk w2 p 89 (mcells q msg.length (keyB key)) ∧ (OMac w (w2.setRow p (splice (mcells q msg.length (keyB key)) 0 [.pointer (some ⟨q2, 0, none⟩), .int .i64 0]).toArray) p q2 v2 key [] ∧ Keeps (fun i => i = p) wr (w2.setRow p (splice (mcells q msg.length (keyB key)) 0 [.pointer (some ⟨q2, 0, none⟩), .int .i64 0]).toArray) ∧ (∀ i, Foot q2 v2 i → wr.heap.size ≤ i))) := Lib.hid fun w2 q2 v2 ho2 => by
    have hb2 := ho2.2.1.blk h.blk (fun h => h)
    have hplt := h.blk.lt
    have hsp : splice (mcells q msg.length (keyB key)) 0 [.pointer (some ⟨q2, 0, none⟩), .int .i64 0] = mcells q2 0 (keyB key) := rfl
    rw [hsp]
    have hk3 : Keeps (fun i => i = p) w2 (w2.setRow p (mcells q2 0 (keyB key)).toArray) := Keeps.setRow (F := fun i => i = p) (Keeps.refl _ _) (.inl rfl) _
    refine ⟨hb2, ⟨hb2.setRow _, ?_, h.low⟩, ?_, ho2.2.2⟩
    · rw [List.append_nil]
      refine ⟨ho2.1.keep hk3 (fun i hi e => by have := ho2.2.2 i hi; omega), (h.own.2.1.trans ho2.2.1 (fun _ _ h => h)).trans hk3 (fun i hi e => by have := h.low; omega), fun i hi => Nat.le_trans h.own.2.1.size (ho2.2.2 i hi)⟩
    · exact (ho2.2.1.mono (fun _ _ h => h.elim)).trans hk3 (fun _ _ h => h)
  obtain ⟨KB, hKB⟩ : ∃ KB, KB = vb (keyB key) := ⟨_, rfl⟩
  obtain ⟨MC, hMC⟩ : ∃ MC, MC = mcells q msg.length (keyB key) := ⟨_, rfl⟩
  have HML : Hid (MC.length = 66) := Lib.hid (by rw [hMC, mcells_length _ _ _ (keyB_length key)])
  rw [← hKB] at HBG HL HKL
  simp only [← hMC] at HFIN
  clear hKB hMC hGr h hkb hG
  go_enter Tryd.func36, Tryd.ntmps36
  go_wp2_with (first
    | ((with_reducible show wpList _ _ _ (⟨some _, Op.load 84 _, _, _, _, _⟩ :: _) _ _); refine wpList_load_lies rfl 84 _ rfl 2 KB _ rfl HL.out Tryd.underlying84 rfl (by rw [HKL.out]; exact infoB64) ?_)
    | (go_at_call 51; refine HBG.out.mono ?_; rintro e w2 ⟨q2, v2, rfl, ho2⟩; obtain ⟨hb2, hf2⟩ := HFIN.out w2 q2 v2 ho2; have HB2 := Lib.hid hb2; have HF2 := Lib.hid hf2; clear ho2 hb2 hf2)
    | ((with_reducible show wpList _ _ _ (⟨none, Op.store 87 _ _, _, _, _, _⟩ :: _) _ _); refine wpList_store_at rfl 87 _ _ rfl 0 [.pointer (some ⟨q2, 0, none⟩), .int .i64 0] rfl rfl HB2.out (by rw [HML.out]; show 0 + 2 ≤ 66; omega) (by kernel_rfl) (by intro u hu; rcases List.mem_cons.mp hu with rfl | hu; rfl; rcases List.mem_cons.mp hu with rfl | hu; rfl; cases hu) ?_; refine gen_world (fun W => OMac w W p q2 v2 key [] ∧ Keeps (fun i => i = p) wr W ∧ (∀ i, Foot q2 v2 i → wr.heap.size ≤ i)) HF2.out ?_; intro W3 h3; have H3 := Lib.hid h3; clear h3))
  go_ret
  exact ⟨q2, v2, rfl, H3.out⟩
end Go.Proofs.YtnlnbgjpbnjjfaaDoor
