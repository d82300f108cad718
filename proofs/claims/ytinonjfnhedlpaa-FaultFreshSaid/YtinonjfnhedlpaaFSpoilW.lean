/-
  WALKS: the law's spoil (writes into all that is in an error).
-/
import Derived.Test.YtinonjfnhedlpaaFWorksW
import Derived.Test.YtinonjfnhedlpaaFFlatW
set_option linter.unusedSimpArgs false
namespace Go.Aff
open Go Go.RowKit
/-- append of one element onto an owned row: a cell written in place, or a new block. -/
theorem append_one {P : Program} (w : World) (t ty e : TypeId) (i : TypeInfo) (z : Value) (bytes : Nat) (ht : P.underlying t = some (.slice e)) (hi : P.info? e = some i) (hz : i.zero = some z)
    (hsize : i.size = 1) (hby : i.bytes = bytes)
    (A : Option Addr) (n c : Nat) (xs : List Value) (hown : w.ownsRow 0 e 1 (.slice A n c) n xs)
    (g0 o0 c2 : Nat) (u : Value) (hu : w.cell? ⟨g0, o0, none⟩ = some u) (h1 : u.oneCell' = true)
    (h63 : n + 1 ≤ maxLen) (hbytes : (n + 1) * bytes ≤ 140737488355328) :
    ∃ v' w', (Builtin.append_ #[t, t] ty #[.slice A n c, .slice (some ⟨g0, o0, none⟩) 1 c2]).run P w = .ok v' w' ∧ ((∃ g, A = some ⟨g, 0, none⟩ ∧ n < c ∧ w' = w.setCell ⟨g, n, none⟩ u) ∨ ∃ o, w' = w.drew.alloc o) := by
  subst hby
  have hsmall : n + 1 ≤ 9223372036854775807 := by simp only [maxLen] at h63; omega
  have hxl : xs.length = n := by simpa using hown.1
  have hnews : ∀ j v, [u][j]? = some v → w.cell? ((⟨g0, o0, none⟩ : Addr).add j) = some v := fun j v hj => by
    match j, hj with
    | 0, hj =>
      rw [add_at, Nat.add_zero, hu]
      exact hj
  rcases hown.2 with ⟨hv, hn0⟩ | ⟨g, cap, cur, hv, hbg, hg, hnc, hcm, hcs, htake⟩
  · injection hv with e1 e2 e3
    subst e1 e2 e3
    have hr := run_append_nil (P := P) w t ty e i z ht hi hz ⟨g0, o0, none⟩ 1 c2 [u] (by rw [hsize]; rfl) hnews (by omega) (by omega) (by simp only [Nat.zero_add] at hbytes; omega)
    exact ⟨_, _, hr, .inr ⟨_, rfl⟩⟩
  · injection hv with e1 _ e3
    subst e1 e3
    by_cases hroom : n + 1 ≤ c
    · have hfit : n * i.size + [u].length ≤ cur.size := by rw [hcs, hsize]; simp; omega
      have hr := run_append_room (P := P) w t ty e i ht hi g n c cur hg ⟨g0, o0, none⟩ 1 c2 [u] (by rw [hsize]; rfl) hnews (fun x hx => by rw [List.mem_singleton.1 hx]; exact h1) hroom hfit
      rw [hsize] at hr
      refine ⟨_, _, hr, .inl ⟨g, rfl, by omega, ?_⟩⟩
      rw [setCell_eq_setRow w g n cur e (0, 0) u hg]
      congr 1
      apply Array.toList_inj.1
      have hn : n < cur.toList.length := by simp; omega
      rw [Array.toList_setIfInBounds, List.set_eq_take_append_cons_drop, if_pos hn]
      simp
    · have holds : ∀ j u, xs[j]? = some u → w.cell? ((⟨g, 0, none⟩ : Addr).add j) = some u := hown.cells (g := g) rfl
      have hr := run_append_grow (P := P) w t ty e i z ht hi hz ⟨g, 0, none⟩ n c xs (by rw [hsize, hxl, Nat.mul_one]) holds ⟨g0, o0, none⟩ 1 c2 [u] (by rw [hsize]; rfl) hnews (by omega) (by omega) (growslice_fits (by omega) hbytes)
      exact ⟨_, _, hr, .inr ⟨_, rfl⟩⟩
theorem wpList_append_one {P : Program} (w : World) {ops : Array Oper} {rest : List Oper} {o : Oper} {a : Act} {Q : Exit → Act → World → Prop} (hgd : o.guard = none) (s x : Operand) (t : TypeId)
    (ho : o.op = .call { callee := .builtin .append, args := #[s, x], argTypes := #[t, t] })
    (e : TypeId) (z : Value) (bytes : Nat) (ht : P.underlying t = some (.slice e)) (hinfo : (P.info? e).map (fun i => (i.zero, i.size, i.bytes)) = some (some z, 1, bytes))
    (A : Option Addr) (n c : Nat) (xs : List Value) (hs : a.eval s = .slice A n c) (hown : w.ownsRow 0 e 1 (.slice A n c) n xs)
    (g0 o0 c2 : Nat) (u : Value) (hx : a.eval x = .slice (some ⟨g0, o0, none⟩) 1 c2) (hu : w.cell? ⟨g0, o0, none⟩ = some u) (h1 : u.oneCell' = true)
    (h63 : n + 1 ≤ maxLen) (hbytes : (n + 1) * bytes ≤ 140737488355328)
    (h : ∀ v' w', ((∃ g, A = some ⟨g, 0, none⟩ ∧ n < c ∧ w' = w.setCell ⟨g, n, none⟩ u) ∨ ∃ o, w' = w.drew.alloc o) → wpList P ops Q rest (a.put o.dst v') w') :
    wpList P ops Q (o :: rest) a w := by
  obtain ⟨i, hi, hzi⟩ := Option.map_eq_some_iff.1 hinfo
  simp only [Prod.mk.injEq] at hzi
  obtain ⟨hz, hsz, hby⟩ := hzi
  obtain ⟨v', w', hrun, hc⟩ := append_one (P := P) w t o.type e i z bytes ht hi hz hsz hby A n c xs hown g0 o0 c2 u hu h1 h63 hbytes
  refine wpList_plain hgd fun K hK => ?_
  unfold Oper.wp execOp
  simp only [ho, resolve, invoke, builtin, Sem.run_bind, Sem.run_pure, Result.andThen_ok, List.map_toArray, List.map_cons, List.map_nil, hs, hx, hrun]
  exact hK _ _ (h v' w' hc)
end Go.Aff
namespace Go.Proofs.Ytinonjfnhedlpaa
open Go Go.RowKit Go.Aff Go.Fault
/-- What is written over an error. -/
def e9 : Value := .iface 32 (.int .i64 9)
/-- It lies in memory, and whatever is in it may be written over. -/
def AtS (B : Nat → Prop) (w : World) : VT → Prop
  | .note b _ e => B b ∧ (∃ s v, Blk w b 90 [.string s, v] ∧ (v = e9 ∨ v = vv e)) ∧ AtS B w e
  | .all A c l => l.length ≤ 1048576 ∧ (∃ xs, w.ownsRow 0 25 1 (.slice A l.length c) l.length xs ∧ ∀ (i : Nat) v, xs[i]? = some v → v = e9 ∨ (l.map vv)[i]? = some v) ∧ (∀ g, (Value.slice A l.length c).ownBlock = some g → B g) ∧ ∀ x, x ∈ l → AtS B w x
  | _ => True
theorem At.spoilt {B : Nat → Prop} {w : World} {t : VT} (h : At B w t) : AtS B w t := by
  induction t using VT.ind with
  | h5 b wd e ih =>
    simp only [At] at h
    simp only [AtS]
    exact ⟨h.1, ⟨_, _, h.2.1, .inr rfl⟩, ih h.2.2⟩
  | h6 A c l ih =>
    simp only [At] at h
    simp only [AtS]
    exact ⟨h.1, ⟨_, h.2.1, fun i v hv => .inr hv⟩, h.2.2.1, fun x hx => ih x hx (h.2.2.2 x hx)⟩
  | _ => simp [AtS]
theorem AtS.keep {B F : Nat → Prop} {w w' : World} {t : VT} (h : AtS B w t) (hk : Keeps F w w') (hF : ∀ i, B i → ¬ F i) : AtS B w' t := by
  induction t using VT.ind with
  | h5 b wd e ih =>
    simp only [AtS] at h ⊢
    obtain ⟨h1, ⟨s, v, h2, h3⟩, h4⟩ := h
    exact ⟨h1, ⟨s, v, hk.blk h2 (hF b h1), h3⟩, ih h4⟩
  | h6 A c l ih =>
    simp only [AtS] at h ⊢
    obtain ⟨h1, ⟨xs, h2, h3⟩, h4, h5⟩ := h
    exact ⟨h1, ⟨xs, hk.own h2 (fun g hg => hF g (h4 g hg)), h3⟩, h4, fun x hx => ih x hx (h5 x hx)⟩
  | _ => simp [AtS]
/-- A note is written over. -/
theorem AtS.note {B : Nat → Prop} {w : World} {b : Nat} {s0 : ByteArray} {v0 : Value} (hb : Blk w b 90 [.string s0, v0]) (s : ByteArray) {t : VT} (h : AtS B w t) : AtS B ((w.setCell ⟨b, 0, none⟩ (.string s)).setCell ⟨b, 1, none⟩ e9) t := by
  have hb2 := (hb.set_ 0 (.string s)).set_ 1 e9
  have hk : Keeps (fun i => i = b) w ((w.setCell ⟨b, 0, none⟩ (.string s)).setCell ⟨b, 1, none⟩ e9) := ((Keeps.refl (fun i => i = b) w).setCell (p := ⟨b, 0, none⟩) (.inl rfl) _).setCell (p := ⟨b, 1, none⟩) (.inl rfl) _
  induction t using VT.ind with
  | h5 b2 wd e ih =>
    simp only [AtS] at h ⊢
    obtain ⟨h1, ⟨s1, v1, h2, h3⟩, h4⟩ := h
    refine ⟨h1, ?_, ih h4⟩
    by_cases hbb : b2 = b
    · subst hbb
      exact ⟨s, e9, hb2, .inl rfl⟩
    · exact ⟨s1, v1, hk.blk h2 hbb, h3⟩
  | h6 A c l ih =>
    simp only [AtS] at h ⊢
    obtain ⟨h1, ⟨xs, h2, h3⟩, h4, h5⟩ := h
    exact ⟨h1, ⟨xs, hk.own h2 (fun g hg e => own_blk h2 hb (by decide) (e ▸ hg)), h3⟩, h4, fun x hx => ih x hx (h5 x hx)⟩
  | _ => simp [AtS]
theorem own_setF {w : World} {base : Nat} {e : TypeId} {g n c : Nat} {xs : List Value} (h : w.ownsRow base e 1 (.slice (some ⟨g, 0, none⟩) n c) n xs) (i : Nat) (u : Value) : (w.setCell ⟨g, i, none⟩ u).ownsRow base e 1 (.slice (some ⟨g, 0, none⟩) n c) n (xs.set i u) := by
  by_cases hi : i < n
  · exact own_set h i hi u
  · have hxl : xs.length = n := by simpa using h.1
    have hx : xs.set i u = xs := List.set_eq_of_length_le (by omega)
    rw [hx]
    refine ⟨h.1, .inr ?_⟩
    rcases h.2 with ⟨hv, _⟩ | ⟨g1, cap, cur, hv, hb, hh, hle, hm, hs, ht⟩
    · cases hv
    · injection hv with hv hn hc
      injection hv with hv
      injection hv with hv
      subst hv hc
      refine ⟨g, c, cur.setIfInBounds i u, rfl, hb, ?_, hle, hm, by simpa using hs, ?_⟩
      · rw [setCell_eq_setRow w g i cur e (0, 0) u hh]
        exact setRow_heap w g _ _ e _ hh
      · rw [Nat.mul_one] at ht ⊢
        rw [Array.toList_setIfInBounds, List.take_set_of_le (by omega)]
        exact ht
/-- A list's cell is written over, or one behind its end. -/
theorem AtS.cell {B : Nat → Prop} {w : World} {g n0 c0 : Nat} {xs0 : List Value} (h0 : w.ownsRow 0 25 1 (.slice (some ⟨g, 0, none⟩) n0 c0) n0 xs0) (i : Nat) {t : VT} (h : AtS B w t) : AtS B (w.setCell ⟨g, i, none⟩ e9) t := by
  have hk : Keeps (fun j => j = g) w (w.setCell ⟨g, i, none⟩ e9) := (Keeps.refl (fun j => j = g) w).setCell (p := ⟨g, i, none⟩) (.inl rfl) _
  induction t using VT.ind with
  | h5 b2 wd e ih =>
    simp only [AtS] at h ⊢
    obtain ⟨h1, ⟨s1, v1, h2, h3⟩, h4⟩ := h
    exact ⟨h1, ⟨s1, v1, hk.blk h2 (fun e => own_blk h0 h2 (by decide) (by rw [e]; rfl)), h3⟩, ih h4⟩
  | h6 A c l ih =>
    simp only [AtS] at h ⊢
    obtain ⟨h1, ⟨xs, h2, h3⟩, h4, h5⟩ := h
    refine ⟨h1, ?_, h4, fun x hx => ih x hx (h5 x hx)⟩
    by_cases hg : (Value.slice A l.length c).ownBlock = some g
    · have hA : A = some ⟨g, 0, none⟩ := by
        rcases h2.2 with ⟨hv, _⟩ | ⟨g1, cap, cur, hv, _⟩
        · injection hv with e1 _ _
          subst e1
          cases hg
        · injection hv with e1 _ _
          subst e1
          injection hg with hg
          rw [← hg]
      subst hA
      refine ⟨xs.set i e9, own_setF h2 i e9, fun j v hj => ?_⟩
      rw [List.getElem?_set] at hj
      split at hj
      · split at hj
        · injection hj with hj
          exact .inl hj.symm
        · cases hj
      · exact h3 j v hj
    · exact ⟨xs, hk.own h2 (fun g2 hg2 e => hg (e ▸ hg2)), h3⟩
  | _ => simp [AtS]
/-- Only what lies in B is written, and all there stays readable. -/
def SpoilK (B : Nat → Prop) (w w' : World) : Prop := Keeps B w w' ∧ ∀ t, AtS B w t → AtS B w' t
theorem SpoilK.refl (B : Nat → Prop) (w : World) : SpoilK B w w := ⟨Keeps.refl _ _, fun _ h => h⟩
theorem SpoilK.trans {B : Nat → Prop} {w w1 w2 : World} (h : SpoilK B w w1) (k : SpoilK B w1 w2) : SpoilK B w w2 := ⟨h.1.trans k.1 (fun _ _ h => h), fun t ht => k.2 t (h.2 t ht)⟩
theorem SpoilK.keep {B : Nat → Prop} {w w1 w2 : World} (h : SpoilK B w w1) (k : Keeps (fun _ => False) w1 w2) : SpoilK B w w2 := h.trans ⟨k.mono (fun _ _ h => h.elim), fun _ ht => ht.keep k (fun _ _ h => h)⟩
set_option maxHeartbeats 4000000 in
set_option maxRecDepth 100000 in
theorem spoil_plain (t : VT) (ht : match t with | .note _ _ _ => False | .all _ _ _ => False | _ => True) (w : World) : Calls Try.prog 16 #[vv t] w fun e w' => e = .returned (.tuple #[]) ∧ Keeps (fun _ => False) w w' := by
  cases t with
  | nil =>
    have x1 := as_nil_note
    have x2 := as_nil_all
    simp only [vv]
    go_enter Try.func16, Try.ntmps16
    go_wp2
    go_end0
    exact ⟨rfl, Keeps.refl _ _⟩
  | num n =>
    have x1 := as_num_note
    have x2 := as_num_all
    simp only [vv]
    go_enter Try.func16, Try.ntmps16
    go_wp2
    go_end0
    exact ⟨rfl, Keeps.refl _ _⟩
  | spot n a =>
    have x1 := as_spot_note
    have x2 := as_spot_all
    simp only [vv]
    go_enter Try.func16, Try.ntmps16
    go_wp2
    go_end0
    exact ⟨rfl, Keeps.refl _ _⟩
  | trail n s =>
    have x1 := as_trail_note
    have x2 := as_trail_all
    simp only [vv]
    go_enter Try.func16, Try.ntmps16
    go_wp2
    go_end0
    exact ⟨rfl, Keeps.refl _ _⟩
  | gone =>
    have x1 := as_note_note
    have x2 := as_note_all
    simp only [vv]
    go_enter Try.func16, Try.ntmps16
    go_wp2
    go_end0
    exact ⟨rfl, Keeps.refl _ _⟩
  | note b wd e => exact ht.elim
  | all A c l => exact ht.elim
theorem vv_e9 : vv (.num 9) = e9 := rfl
theorem spoil_e9 (w : World) : Calls Try.prog 16 #[e9] w fun e w' => e = .returned (.tuple #[]) ∧ Keeps (fun _ => False) w w' := spoil_plain (.num 9) trivial w
set_option maxHeartbeats 4000000 in
set_option maxRecDepth 100000 in
theorem spoil_rec (k : Nat) : ∀ (t : VT) (w : World) (B : Nat → Prop), SizeOf.sizeOf t ≤ k → AtS B w t → Calls Try.prog 16 #[vv t] w fun e w' => e = .returned (.tuple #[]) ∧ SpoilK B w w' := by
  induction k with
  | zero => intro t w D hs; exact absurd hs (by cases t <;> simp)
  | succ k ih =>
    intro t w B hs hat
    have HIH : Hid (∀ (x : VT) (v : Value) (W : World), SizeOf.sizeOf x ≤ k → AtS B W x → (v = e9 ∨ v = vv x) → Calls Try.prog 16 #[v] W fun e w' => e = .returned (.tuple #[]) ∧ SpoilK B W w') := Lib.hid fun x v W h1 h2 h3 => by
      rcases h3 with rfl | rfl
      · exact (spoil_e9 W).mono fun e w' h => ⟨h.1, (SpoilK.refl B W).keep h.2⟩
      · exact ih x W B h1 h2
    clear ih
    cases t with
    | note b wd e =>
      have HAT := Lib.hid hat
      simp only [AtS] at hat
      obtain ⟨hB, ⟨s0, v0, hb, hv0⟩, hae⟩ := hat
      have HR : Hid (Calls Try.prog 16 #[v0] w fun e w' => e = .returned (.tuple #[]) ∧ SpoilK B w w') := Lib.hid (HIH.out e v0 w (by simp at hs; omega) hae hv0)
      have HB := Lib.hid hB
      have c1 := hb.cell 1
      have x1 := as_note_note
      have x2 := as_note_all
      clear hae hv0 hs hb hB
      simp only [vv]
      go_enter Try.func16, Try.ntmps16
      go_wp2_with (go_at_call 16; refine HR.out.mono ?_; rintro e w2 ⟨rfl, hk2⟩; have HK2 := Lib.hid hk2; have ha2 := hk2.2 _ HAT.out; simp only [AtS] at ha2; obtain ⟨_, ⟨s2, v2, hb2, _⟩, _⟩ := ha2; have HB2 := Lib.hid hb2; have q0 := hb2.cell 0; have q1 := hb2.cell 1; have q2 := hb2.frozen 0; have q3 := hb2.frozen 1; clear hk2 hb2)
      go_end0
      refine ⟨rfl, HK2.out.trans ⟨((Keeps.refl B w2).setCell (p := ⟨b, 0, none⟩) (.inl HB.out) _).setCell (p := ⟨b, 1, none⟩) (.inl HB.out) _, fun t ht => AtS.note HB2.out _ ht⟩⟩
    | all A c l =>
      have HAT := Lib.hid hat
      simp only [AtS] at hat
      obtain ⟨hlen, ⟨xs0, ho0, hx0⟩, hB, hax⟩ := hat
      obtain ⟨m, hmm⟩ : ∃ m, m = l.length := ⟨_, rfl⟩
      have HAX : Hid (∀ (j : Nat) (x : VT), l[j]? = some x → SizeOf.sizeOf x ≤ k) := Lib.hid fun j x hx => by have h2 := VT.size_all (A := A) (c := c) (List.mem_of_getElem? hx); omega
      have HNX : Hid (∀ W, AtS B W (.all A c l) → ∃ xs, W.ownsRow 0 25 1 (.slice A m c) m xs ∧ ∀ j, j < m → ∃ v x, xs[j]? = some v ∧ l[j]? = some x ∧ (v = e9 ∨ v = vv x) ∧ AtS B W x) := Lib.hid fun W h => by
        simp only [AtS] at h
        obtain ⟨_, ⟨xs, q1, q2⟩, _, q4⟩ := h
        rw [← hmm] at q1
        refine ⟨xs, q1, fun j hj => ?_⟩
        have hxl : xs.length = m := by simpa using q1.1
        obtain ⟨v, hv⟩ : ∃ v, xs[j]? = some v := ⟨_, List.getElem?_eq_getElem (by omega)⟩
        obtain ⟨x, hx⟩ : ∃ x, l[j]? = some x := ⟨_, List.getElem?_eq_getElem (by omega)⟩
        refine ⟨v, x, hv, hx, (q2 j v hv).imp id fun h => ?_, q4 x (List.mem_of_getElem? hx)⟩
        rw [List.getElem?_map, hx] at h
        injection h with h
        exact h.symm
      have HBB : Hid (∀ g, A = some ⟨g, 0, none⟩ → B g) := Lib.hid fun g h => hB g (by rw [h]; rfl)
      have hm2 : m ≤ 1048576 := by omega
      have x1 := as_all_note
      have x2 := as_all_all
      simp only [vv]
      rw [← hmm]
      clear hs ho0 hx0 hB hax hlen hmm
      go_enter Try.func16, Try.ntmps16
      go_upto_block 1 with fail
      go_wp2
      go_loopg [28] m (fun g2 i w3 => ∃ j, j ≤ m ∧ i = .int .i64 j ∧ g2 = m - j ∧ Hid (SpoilK B w w3))
      case atStart => exact ⟨0, by omega, rfl, rfl, Lib.hid (SpoilK.refl B w)⟩
      case round =>
        obtain ⟨j, hj, rfl, hg2, HA⟩ := hrel
        have HG2 := Lib.hid hg2
        clear hg2
        by_cases hlt : j < m
        · obtain ⟨xs, ho, hx⟩ := HNX.out wr (HA.out.2 _ HAT.out)
          obtain ⟨v, x, h1, h2, h3, h4⟩ := hx j hlt
          obtain ⟨g, hA⟩ := own_headF ho (by have := ho.1; omega)
          subst hA
          have hcl : wr.cell? ⟨g, j, none⟩ = some v := by rw [own_cell ho j hlt]; exact h1
          have HR : Hid (Calls Try.prog 16 #[v] wr fun e w' => e = .returned (.tuple #[]) ∧ SpoilK B wr w') := Lib.hid (HIH.out x v wr (HAX.out j x h2) h4 h3)
          clear ho hx h1 h2 h3 h4
          go_wp2_with (go_at_call 16; refine HR.out.mono ?_; rintro e w4 ⟨rfl, hk4⟩; have HK4 := Lib.hid (HA.out.trans hk4); obtain ⟨xs4, ho4, hx4⟩ := HNX.out w4 (HK4.out.2 _ HAT.out); have HO4 := Lib.hid ho4; have q1 : w4.cell? ⟨g, j, none⟩ = some (xs4.getD j undef) := (by rw [own_cell ho4 j hlt, List.getD_eq_getElem?_getD, List.getElem?_eq_getElem (by have := ho4.1; omega)]; rfl); have q2 := own_frozen ho4 j; clear hk4 ho4 hx4)
          go_roundg (m - (j + 1))
          case measure => rw [HG2.out]; omega
          case rel => exact ⟨j + 1, by omega, by go_num, rfl, Lib.hid (HK4.out.trans ⟨(Keeps.refl B w4).setCell (p := ⟨g, j, none⟩) (.inl (HBB.out g rfl)) _, fun t ht => AtS.cell HO4.out j ht⟩)⟩
        · obtain rfl : j = m := by omega
          obtain ⟨xs, ho, hx⟩ := HNX.out wr (HA.out.2 _ HAT.out)
          have HO := Lib.hid ho
          clear ho hx
          go_wp2_with (at_builtin; refine wpList_append_one _ rfl (.tmp 41) (.tmp 43) 68 rfl 25 .nilIface 16 Try.underlying68 infoErrZ A j c xs rfl (((Keeps.refl (fun _ => False) wr).alloc _).own HO.out (fun _ _ h => h)) wr.heap.size 0 1 e9 rfl (((Blk.new wr 25 [e9]).cell 0).trans rfl) rfl (by simp only [maxLen]; omega) (by omega) ?_; intro v5 w5 hc5; have HC5 := Lib.hid hc5; clear hc5)
          go_end0
          refine ⟨rfl, HA.out.trans ?_⟩
          have k5 : SpoilK B wr (wr.alloc (.cells #[e9] 25)) := (SpoilK.refl B wr).keep ((Keeps.refl _ wr).alloc _)
          refine k5.trans ?_
          rcases HC5.out with ⟨g, hA, hc, rfl⟩ | ⟨o, rfl⟩
          · subst hA
            exact ⟨(Keeps.refl B _).setCell (p := ⟨g, j, none⟩) (.inl (HBB.out g rfl)) _, fun t ht => AtS.cell (((Keeps.refl (fun _ => False) wr).alloc _).own HO.out (fun _ _ h => h)) j ht⟩
          · exact (SpoilK.refl B _).keep ((Keeps.refl _ _).drew.alloc _)
    | nil => exact (spoil_plain .nil trivial w).mono fun e w' h => ⟨h.1, (SpoilK.refl B w).keep h.2⟩
    | num n => exact (spoil_plain (.num n) trivial w).mono fun e w' h => ⟨h.1, (SpoilK.refl B w).keep h.2⟩
    | spot n a => exact (spoil_plain (.spot n a) trivial w).mono fun e w' h => ⟨h.1, (SpoilK.refl B w).keep h.2⟩
    | trail n s => exact (spoil_plain (.trail n s) trivial w).mono fun e w' h => ⟨h.1, (SpoilK.refl B w).keep h.2⟩
    | gone => exact (spoil_plain .gone trivial w).mono fun e w' h => ⟨h.1, (SpoilK.refl B w).keep h.2⟩
end Go.Proofs.Ytinonjfnhedlpaa
