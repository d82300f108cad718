/-
  WALKS: Flat (all numbers, Spots and Trails that are in an error).
-/
import Derived.Test.YtinonjfnhedlpaaFCollK
import Derived.OwnWalkIn
set_option linter.unusedSimpArgs false
namespace Go.Aff
open Go Go.RowKit
/-- append onto a row of the call's own within a fence: elements of any size; which block it lies in. -/
theorem wpListIn_append_at {F : Fence} {n : Nat} {P : Program} (w : World) {ops : Array Oper} {rest : List Oper} {o : Oper} {a : Act} {Q : Exit → Act → World → Prop}
    (hg : o.guard = none) (s x : Operand) (t : TypeId) (hop : o.op = Op.call { callee := Callee.builtin Builtin.append, args := #[s, x], argTypes := #[t, t] })
    (e : TypeId) (z : Value) (size bytes : Nat) (ht : P.underlying t = some (.slice e)) (hinfo : (P.info? e).map (fun i => (i.zero, i.size, i.bytes)) = some (some z, size, bytes)) (hzs : z.cells.size = size) (hsz : 0 < size)
    (B : Option Addr) (k d : Nat) (xs : List Value) (hs : a.eval s = .slice B k d) (hown : w.ownsRow 0 e size (.slice B k d) k xs)
    (ad : Addr) (m c : Nat) (news : List Value) (hx : a.eval x = .slice (some ad) m c) (hl : news.length = m * size) (hnews : ∀ j u, news[j]? = some u → w.cell? (ad.add j) = some u) (h1 : ∀ u ∈ news, u.oneCell' = true)
    (h63 : k + m ≤ maxLen) (hbytes : (k + m) * bytes ≤ 140737488355328)
    (hK : ∀ A' c' w', w'.ownsRow 0 e size (.slice A' (k + m) c') (k + m) (xs ++ news) → w.grownBy w' (Value.slice B k d).ownBlock → ((Value.slice A' (k + m) c').ownBlock = (Value.slice B k d).ownBlock ∨ (Value.slice A' (k + m) c').ownBlock = some w.heap.size) → wpListIn F n P ops Q rest (a.put o.dst (.slice A' (k + m) c')) w') :
    wpListIn F n P ops Q (o :: rest) a w := by
  refine wpListIn_plain hg fun K hK' => ?_
  obtain ⟨i, hi, hzi⟩ := Option.map_eq_some_iff.1 hinfo
  simp only [Prod.mk.injEq] at hzi
  obtain ⟨hz, hsz', hby⟩ := hzi
  obtain ⟨v', w', hr, h2, h3, _, h5⟩ := run_append_own_at (P := P) w 0 t o.type e i z size bytes ht hi hz hsz' hby hzs hsz (.slice B k d) k xs hown ad m c news hl hnews h1 h63 hbytes (Nat.zero_le _)
  obtain ⟨A', c', rfl⟩ := own_shape h2
  unfold Oper.wpIn
  refine ⟨?_, ?_⟩
  · simp [Oper.about, hop, resolve, Target.leads, Sem.run_pure]
  · rw [Oper.semAt_plain F _ _ (by rw [hop]; intro c hc'; cases hc')]
    simp [execOp, hop, resolve, invoke, builtin, hs, hx, hr, Result.andThen]
    exact hK' _ _ (hK A' c' w' h2 h3 h5)
end Go.Aff
namespace Go.Fault
open Go Go.RowKit Go.Aff
/-- The numbers, Spots and Trails so far; the depth of a number that is within the last one. -/
def flatS (s : List VT × Int) (p : Nat × VT) : List VT × Int :=
  match p.2 with
  | .spot n a => (s.1 ++ [.spot n a], (p.1 : Int) + 1)
  | .trail n x => (s.1 ++ [.trail n x], (p.1 : Int) + 1)
  | .num n => if (p.1 : Int) = s.2 then (s.1, 0) else (s.1 ++ [.num n], 0)
  | _ => (s.1, 0)
def flatL (l : List (Nat × VT)) : List VT × Int := l.foldl flatS ([], 0)
def flatT : List VT → VT
  | [] => .nil
  | [t] => t
  | l => .all none 0 l
def VT.plain : VT → Bool
  | .num _ => true
  | .spot _ _ => true
  | .trail _ _ => true
  | _ => false
theorem flatL_snoc (l : List (Nat × VT)) (p : Nat × VT) : flatL (l ++ [p]) = flatS (flatL l) p := by simp [flatL]
theorem flatS_plainI (s : List VT × Int) (p : Nat × VT) : flatS s (plainI p) = flatS s p := by
  obtain ⟨d, t⟩ := p
  cases t <;> simp [flatS, plainI, VT.erase]
theorem flatL_erase (t : VT) : flatL (t.erase.items 1) = flatL (t.items 1) := by
  rw [VT.items_erase]
  simp [flatL, List.foldl_map, flatS_plainI]
theorem flatS_len (s : List VT × Int) (p : Nat × VT) : (flatS s p).1.length ≤ s.1.length + 1 := by
  obtain ⟨d, t⟩ := p
  cases t <;> simp [flatS]
  split <;> simp
theorem foldS_len (l : List (Nat × VT)) : ∀ s : List VT × Int, (l.foldl flatS s).1.length ≤ s.1.length + l.length := by
  induction l with
  | nil => intro s; exact Nat.le_refl _
  | cons p l ih =>
    intro s
    have h1 := ih (flatS s p)
    have h2 := flatS_len s p
    simp only [List.foldl_cons, List.length_cons]
    omega
theorem flatL_len (l : List (Nat × VT)) : (flatL l).1.length ≤ l.length := by
  have := foldS_len l ([], 0)
  simp only [List.length_nil, Nat.zero_add] at this
  exact this
theorem flatS_plain (s : List VT × Int) (p : Nat × VT) (h : ∀ x ∈ s.1, x.plain = true) : ∀ x ∈ (flatS s p).1, x.plain = true := by
  obtain ⟨d, t⟩ := p
  cases t <;> simp only [flatS] <;> first | exact h | (try split) <;> intro x hx <;> (try simp only [List.mem_append, List.mem_singleton] at hx) <;> first | exact h x hx | (rcases hx with hx | rfl <;> first | exact h x hx | rfl)
theorem foldS_plain (l : List (Nat × VT)) : ∀ s : List VT × Int, (∀ x ∈ s.1, x.plain = true) → ∀ x ∈ (l.foldl flatS s).1, x.plain = true := by
  induction l with
  | nil => intro s h; exact h
  | cons p l ih => intro s h; exact ih _ (flatS_plain s p h)
theorem flatL_plain (l : List (Nat × VT)) : ∀ x ∈ (flatL l).1, x.plain = true := foldS_plain l _ (fun x h => by cases h)
theorem plain_erase {t : VT} (h : t.plain = true) : t.erase = t := by cases t <;> simp [VT.plain] at h <;> simp [VT.erase]
theorem plain_erases {l : List VT} (h : ∀ x ∈ l, x.plain = true) : l.map (fun x => x.erase) = l := by
  induction l with
  | nil => rfl
  | cons x l ih => rw [List.map_cons, plain_erase (h x (List.mem_cons_self ..)), ih fun y hy => h y (List.mem_cons_of_mem _ hy)]
end Go.Fault
namespace Go.Proofs.Ytinonjfnhedlpaa
open Go Go.RowKit Go.Shelf Go.Aff Go.Fault
attribute [local go_sem] Oper.semAt_some
theorem At.plain {D : Nat → Prop} {w : World} {t : VT} (h : t.plain = true) : At D w t := by cases t <;> simp [VT.plain] at h <;> simp [At]
theorem infoErrZ : (Try.prog.info? 25).map (fun i => (i.zero, i.size, i.bytes)) = some (some .nilIface, 1, 16) := by kernel_rfl
/-- What Flat hands back. -/
def FlatPost (w : World) (cs : List CauseV) (e : Ending) (w' : World) : Prop := Keeps (fun _ => False) w w' ∧ (∀ er, buildF cs = .inl er → e = .returned (.tuple #[.nilIface, spotE er.1 er.2])) ∧
  ∀ t, buildF cs = .inr t → ∃ ft, ft.erase = flatT (flatL (t.items 1)).1 ∧ e = .returned (.tuple #[vv ft, .nilIface]) ∧ At (fun i => w.heap.size ≤ i) w' ft
/-- Two boxes: one with a slice, one with an integer; a round that writes into both. -/
theorem Coll.kp2 {lo lo' B C s n n' : Nat} {T Te Ti : TypeId} {W W' : World} {v v' : Value} {xs xs' : List Value} {k : IntKind} {z : Int} (h : Coll lo B T Te s W v n xs) (h' : Coll lo' B T Te s W' v' n' xs') (hC : Blk W' C Ti [.int k z])
    (hk : Keeps (fun i => i = B ∨ i = C ∨ v.ownBlock = some i) W W') (hb : v'.ownBlock = v.ownBlock ∨ ∃ g, v'.ownBlock = some g ∧ W.heap.size ≤ g) : KpO (OwnB [B, C]) W W' := by
  obtain ⟨A, c, rfl⟩ := own_shape h.own
  obtain ⟨A', c', rfl⟩ := own_shape h'.own
  have own_of : ∀ i, (Value.slice A n c).ownBlock = some i → OwnB [B, C] W i := fun i hi => by
    cases A with
    | none => cases hi
    | some a =>
      injection hi with hi
      exact .inr ⟨B, List.mem_cons_self .., a, n, c, h.blk.cell 0, hi.symm⟩
  refine ⟨hk.size, fun i cc t fr hi hn => (hk.block i (Array.getElem?_eq_some_iff.1 hi).1 (fun e => ?_)).trans hi, fun i hi => ?_⟩
  · rcases e with rfl | rfl | e
    · exact hn (.inl (List.mem_cons_self ..))
    · exact hn (.inl (by simp))
    · exact hn (own_of i e)
  · rcases hi with hi | ⟨B', hB', a, n2, c2, hc, rfl⟩
    · exact .inl (.inl hi)
    · simp only [List.mem_cons, List.not_mem_nil, or_false] at hB'
      rcases hB' with rfl | rfl
      · have h1 : W'.cell? ⟨B', 0, none⟩ = some (.slice A' n' c') := h'.blk.cell 0
        rw [hc] at h1
        injection h1 with h1
        injection h1 with e1 e2 e3
        have e4 : (Value.slice A' n' c').ownBlock = some a.block := by rw [← e1]; rfl
        rcases hb with hb | ⟨g, hb, hg⟩
        · exact .inl (own_of _ (hb ▸ e4))
        · rw [e4] at hb
          injection hb with hb
          exact .inr ⟨by omega, (h'.own.lt _ e4).2⟩
      · have h1 : W'.cell? ⟨B', 0, none⟩ = some (.int k z) := hC.cell 0
        rw [hc] at h1
        injection h1 with h1
        cases h1
/-- While it is made flat. -/
structure FlatI (w : World) (B : Nat) (vt : VT) (pre : List (XI (vt.items 1))) (W : World) : Prop where
  keep : Keeps (fun _ => False) w W
  at_ : At (fun i => ¬ OwnB [B, B + 1] W i) W vt
  coll : ∃ v, Coll w.heap.size B 68 25 1 W v (flatL (pre.map (·.1))).1.length ((flatL (pre.map (·.1))).1.map vv)
  with_ : Blk W (B + 1) 3 [.int .i64 (flatL (pre.map (·.1))).2]
theorem FlatI.ck {w : World} {B m : Nat} {vt : VT} {pre : List (XI (vt.items 1))} {W W' : World} (h : FlatI w B vt pre W) (k : CK m W W') (hm : w.heap.size ≤ m) : FlatI w B vt pre W' := by
  obtain ⟨h1, h2, ⟨v, h3⟩, h4⟩ := h
  refine ⟨k.keeps h1 hm, (h2.ck k).mono fun i hi _ ho => hi (OwnB.ck k (fun B' hB' => ?_) ho), ⟨v, h3.ck k⟩, k.blk h4⟩
  simp only [List.mem_cons, List.not_mem_nil, or_false] at hB'
  rcases hB' with rfl | rfl
  · exact ⟨_, _, _, h3.blk⟩
  · exact ⟨_, _, _, h4⟩
set_option maxHeartbeats 4000000 in
set_option maxRecDepth 100000 in
theorem Flat_any (w : World) (A : Option Addr) (n c : Nat) (cs : List CauseV) (hn : cs.length = n) (hS : CausesAt w A cs) :
    Calls Try.prog 17 #[.slice A n c] w (FlatPost w cs) := by
  have HB := Lib.hid (Build_any w A n c cs hn hS)
  clear hS hn
  have hdd : ∀ k : Nat, (Fence.wide.depth.isSome = true → 1 ≤ k) := fun k h => by cases h
  cases hb : buildF cs with
  | inl er =>
    have HBR : Hid (∀ e w', BuildPost w cs e w' → e = .returned (.tuple #[.nilIface, .iface 62 (.agg #[.int .i64 er.1, .int .i64 er.2])]) ∧ Hid (Keeps (fun _ => False) w w')) := Lib.hid fun e w' h => ⟨h.2.1 er hb, Lib.hid h.1⟩
    have HBF := Lib.hid hb
    clear hb
    refine (callsIn_wide (n := 8)).1 ?_
    refine callsIn_of_wp_marks Try.func17 rfl trivial ?_ rfl
    simp only [Try.ntmps17, List.size_toArray, List.length_cons, List.length_nil, Nat.reduceAdd, Nat.reduceSub, Array.replicate_succ, Array.replicate_zero, List.push_toArray, List.append_toArray, List.nil_append, List.cons_append]
    gi_wp2_with ((try refine ⟨trivial, ?_⟩); (try refine ⟨hdd _, ?_⟩); gi_at_call 15; refine (callsIn_wide.2 HB.out).mono ?_; intro e w1 hp; obtain ⟨rfl, HK⟩ := HBR.out e w1 hp; clear hp)
    refine ⟨_, results_tmp2 rfl _ _ _, ?_⟩
    exact ⟨HK.out, fun er2 h => (by rw [HBF.out] at h; injection h with h; subst h; rfl), fun t h => (by rw [HBF.out] at h; cases h)⟩
  | inr t =>
    have HBR : Hid (∀ e w', BuildPost w cs e w' → ∃ vt x, x = vv vt ∧ e = .returned (.tuple #[x, .nilIface]) ∧ Hid (Keeps (fun _ => False) w w' ∧ vt.erase = t ∧ At (fun i => w.heap.size ≤ i) w' vt ∧ vt.deep ≤ 512)) := Lib.hid fun e w' h => by
      obtain ⟨vt, h1, h2, h3, h4⟩ := h.2.2 t hb
      exact ⟨vt, _, rfl, h2, Lib.hid ⟨h.1, h1, h3, h4⟩⟩
    have HCN := Lib.hid (buildF_count hb)
    have HBF := Lib.hid hb
    clear hb
    refine (callsIn_wide (n := 8)).1 ?_
    refine callsIn_of_wp_marks Try.func17 rfl trivial ?_ rfl
    simp only [Try.ntmps17, List.size_toArray, List.length_cons, List.length_nil, Nat.reduceAdd, Nat.reduceSub, Array.replicate_succ, Array.replicate_zero, List.push_toArray, List.append_toArray, List.nil_append, List.cons_append]
    gi_wp2_with (first
      | ((try refine ⟨trivial, ?_⟩); (try refine ⟨hdd _, ?_⟩); gi_at_call 15; refine (callsIn_wide.2 HB.out).mono ?_; intro e w1 hp; obtain ⟨vt, x, hx, rfl, HK⟩ := HBR.out e w1 hp; have HX := Lib.hid hx; clear hp hx)
      | ((try refine ⟨trivial, ?_⟩); (try refine ⟨hdd _, ?_⟩); gi_at_call 24; rw [HX.out]; refine (callsIn_wide.2 (all_any _ vt)).mono ?_; rintro e w2 ⟨rfl, hw2⟩; have HW2 := Lib.hid hw2; clear hw2))
    obtain ⟨k1, e1, a1, d1⟩ := HK.out
    have hx := HX.out
    obtain ⟨B, hB⟩ : ∃ B, B = w1.heap.size := ⟨_, rfl⟩
    have hw2 := HW2.out
    have k2 : Keeps (fun _ => False) w1 w2 := by rw [hw2]; exact (((Keeps.refl _ w1).alloc _).alloc _).alloc _
    have bB : Blk w2 B 68 [.slice none 0 0] := by rw [hw2, hB]; exact ((Blk.new w1 _ _).alloc _).alloc _
    have bC : Blk w2 (B + 1) 3 [.int .i64 0] := by
      have h1 := (Blk.new (w1.alloc (.cells #[.slice none 0 0] 68)) 3 [.int .i64 0]).alloc (.cells #[vv vt] 25)
      rw [World.size_alloc] at h1
      rw [hw2, hB]
      exact h1
    have bE : Blk w2 (B + 2) 25 [vv vt] := by
      have h1 := Blk.new ((w1.alloc (.cells #[.slice none 0 0] 68)).alloc (.cells #[.int .i64 0] 3)) 25 [vv vt]
      rw [World.size_alloc, World.size_alloc] at h1
      rw [hw2, hB]
      exact h1
    have hBl : ∀ B', B' ∈ [B, B + 1] → B' < w2.heap.size := fun B' h => by
      simp only [List.mem_cons, List.not_mem_nil, or_false] at h
      rcases h with rfl | rfl
      · exact bB.lt
      · exact bC.lt
    have hOB : ∀ i, OwnB [B, B + 1] w2 i → i = B ∨ i = B + 1 := fun i h => by
      rcases h with h | ⟨B', hB', a, n', c', hc, rfl⟩
      · simpa using h
      · simp only [List.mem_cons, List.not_mem_nil, or_false] at hB'
        rcases hB' with rfl | rfl
        · have h1 : w2.cell? ⟨B', 0, none⟩ = some (.slice none 0 0) := bB.cell 0
          rw [hc] at h1
          injection h1 with h1
          injection h1 with h1
          cases h1
        · have h1 : w2.cell? ⟨B + 1, 0, none⟩ = some (.int .i64 0) := bC.cell 0
          rw [hc] at h1
          injection h1 with h1
          cases h1
    have hat : At (fun i => ¬ OwnB [B, B + 1] w2 i) w2 vt := by
      have h1 := (a1.mono (C := fun i => i < w1.heap.size) fun i _ hl => hl).keep k2 (fun _ _ h => h)
      exact h1.mono fun i hi _ ho => by have := hOB i ho; omega
    have hkw2 := k1.trans k2 (fun _ _ h => h)
    have hI0 : FlatI w B vt [] w2 := ⟨hkw2, hat, ⟨_, bB, World.ownsRow_nil _ _ _ _, fun g h => (by cases h)⟩, bC⟩
    have e2 : w1.heap.size + 1 + 1 = B + 2 := by omega
    rw [← hB]
    simp only [show B + 1 + 1 = B + 2 from rfl]
    have HBW := Lib.hid hB
    have k0 := k1.size
    clear hB hw2 HW2 hx e2
    refine wpIn_rangeFunc_ownG rfl (by omega) (gf := 35) (lb := #[.pointer (some ⟨B + 2, 0, none⟩)]) rfl trivial (enters_of Try.func35 (by kernel_rfl) rfl)
      (all_stops _ [B, B + 1] (B + 2) vt w2 hBl (fun i h => by rcases hOB i h with rfl | rfl; exact bB.lt; exact bC.lt) bE hat (by omega)) (fun h k => KpO.trans h k) (fun W l o o' h1 h2 h3 _ => OwnB.kb hBl W l o o' h1 h2 h3) (Below.refl _ _) (fun _ => rfl)
      (FlatI w B vt) (fun _ _ _ => False) (ownFrom_cells _ _ fun _ _ _ h k => h.ck k hkw2.size) (fun _ _ _ _ _ h _ _ => h) hI0
      (fun x => { tmps := #[.slice A n c, undef, .nilIface, .nilIface, vv vt, .nilIface, .pointer (some ⟨B, 0, none⟩), .pointer (some ⟨B + 1, 0, none⟩), .int .i64 (x.1.1 : Nat), vv x.1.2, undef, undef, .tuple #[vv vt, .nilIface],
        .slice A n c, .tuple #[vv vt, .nilIface], vv vt, .nilIface, .nilIface, .bool false, undef, vv vt, .func (.func 35) #[] #[.pointer (some ⟨B + 2, 0, none⟩)], .int .i64 (x.1.1 : Nat), vv x.1.2, undef, undef, undef, undef, undef, undef, undef, undef, undef, undef, undef, undef, undef, undef, undef, undef, undef, undef, undef, undef, undef, undef, undef, undef, undef, undef, undef, undef, undef, undef, undef, undef, undef, undef, undef, undef, undef, undef, undef], defers := [] }) ?assign ?body ?done ?stop
    case assign =>
      intro l x W K hK
      simp only [encI]
      gi_wp2
      exact hK
    case stop =>
      rintro D c2 pre W _ _ h _
      exact h.elim
    case body =>
      rintro l pre x W ⟨h1, h2, ⟨v, h3⟩, h4⟩ hlt
      obtain ⟨A3, c3, rfl⟩ := own_shape h3.own
      obtain ⟨⟨d0, xt⟩, hxm⟩ := x
      obtain ⟨L3, hL3⟩ : ∃ L, L = (flatL (pre.map (·.1))).1 := ⟨_, rfl⟩
      obtain ⟨W0, hW0⟩ : ∃ z, z = (flatL (pre.map (·.1))).2 := ⟨_, rfl⟩
      have HF : Hid (flatL (pre.map (·.1)) = (L3, W0)) := Lib.hid (by rw [hL3, hW0])
      rw [← hL3] at h3
      rw [← hW0] at h4
      have hlen : L3.length ≤ 131072 := by
        have h5 := flatL_len (pre.map (·.1))
        have h6 := HCN.out
        rw [← e1, VT.count_erase] at h6
        rw [← hL3, List.length_map] at h5
        simp only [VT.count] at h6
        omega
      obtain ⟨N3, hN3⟩ : ∃ N, N = L3.length := ⟨_, rfl⟩
      rw [← hN3] at h3 hlen
      have HLN := Lib.hid hN3
      have HC := Lib.hid h3
      have HB4 := Lib.hid h4
      have H12 := Lib.hid (And.intro h1 h2)
      have HNB : Hid ((Value.slice A3 N3 c3).ownBlock ≠ some B) := Lib.hid (own_blk h3.own h3.blk (by decide))
      have HNC : Hid ((Value.slice A3 N3 c3).ownBlock ≠ some (B + 1)) := Lib.hid (own_blk h3.own h4 (by decide))
      have HDP : Hid (d0 ≤ 513) := Lib.hid (by have := vt.items_deep 1 _ hxm; simp only at this; omega)
      have hdi : (0 : Int) ≤ (d0 : Int) ∧ (d0 : Int) ≤ 513 := by have := HDP.out; omega
      have hKD : ∀ W2, Calls Try.prog 29 #[vv xt] W2 fun e w' => e = .returned (.int .i64 (kindF xt)) ∧ Keeps (fun _ => False) W2 w' := fun W2 => kind_any W2 xt
      have HLT := Lib.hid hlen
      clear hL3 hW0 hN3 h1 h2 h3 h4 hkw2 hI0 hOB hat bE bB bC k2 a1 k1 hlen
      refine wpIn_block ?_
      obtain ⟨vtv, hvt⟩ : ∃ v, v = vv vt := ⟨_, rfl⟩
      rw [← hvt]
      clear hvt
      obtain ⟨PX, hPX⟩ : ∃ PX : List (XI (vt.items 1)), PX = pre ++ [⟨(d0, xt), hxm⟩] := ⟨_, rfl⟩
      have HPX : Hid (PX.map (·.1) = pre.map (·.1) ++ [(d0, xt)]) := Lib.hid (by rw [hPX, List.map_append, List.map_singleton])
      rw [← hPX]
      clear hPX
      have HADD : Hid (∀ (W4 W5 : World) (A5 : Option Addr) (c5 : Nat) (y : VT) (z : Int), Keeps (fun _ => False) W W4 → W5.ownsRow 0 25 1 (.slice A5 (N3 + 1) c5) (N3 + 1) (L3.map vv ++ [vv y]) → W4.grownBy W5 (Value.slice A3 N3 c3).ownBlock →
          ((Value.slice A5 (N3 + 1) c5).ownBlock = (Value.slice A3 N3 c3).ownBlock ∨ (Value.slice A5 (N3 + 1) c5).ownBlock = some W4.heap.size) → flatS (L3, W0) (d0, xt) = (L3 ++ [y], z) →
          (Blk W5 B 68 [.slice A3 N3 c3] ∧ Blk W5 (B + 1) 3 [.int .i64 W0]) ∧
          (KeepsFrom w2.heap.size W ((W5.setCell ⟨B, 0, none⟩ (.slice A5 (N3 + 1) c5)).setCell ⟨B + 1, 0, none⟩ (.int .i64 z)) ∧ KpO (OwnB [B, B + 1]) W ((W5.setCell ⟨B, 0, none⟩ (.slice A5 (N3 + 1) c5)).setCell ⟨B + 1, 0, none⟩ (.int .i64 z)) ∧ FlatI w B vt PX ((W5.setCell ⟨B, 0, none⟩ (.slice A5 (N3 + 1) c5)).setCell ⟨B + 1, 0, none⟩ (.int .i64 z)))) := Lib.hid (by
        intro W4 W5 A5 c5 y z hU4 hown5 hg5 hbk5 hfs
        have hk5 := Keeps.of_grown hg5
        have hU5 := (hU4.mono (G := fun i => (Value.slice A3 N3 c3).ownBlock = some i) (fun _ _ h => h.elim)).trans hk5 (fun _ _ h => h)
        have hbB := hU5.blk HC.out.blk HNB.out
        have hbC := hU5.blk HB4.out HNC.out
        refine ⟨⟨hbB, hbC⟩, ?_⟩
        have hU6 : Keeps (fun i => i = B ∨ i = B + 1 ∨ (Value.slice A3 N3 c3).ownBlock = some i) W ((W5.setCell ⟨B, 0, none⟩ (.slice A5 (N3 + 1) c5)).setCell ⟨B + 1, 0, none⟩ (.int .i64 z)) := ((hU5.mono (fun _ _ h => .inr (.inr h))).setCell (p := ⟨B, 0, none⟩) (.inl (.inl rfl)) _).setCell (p := ⟨B + 1, 0, none⟩) (.inl (.inr (.inl rfl))) _
        have hnb : (Value.slice A5 (N3 + 1) c5).ownBlock ≠ some B := own_blk hown5 hbB (by decide)
        have hnc : (Value.slice A5 (N3 + 1) c5).ownBlock ≠ some (B + 1) := own_blk hown5 hbC (by decide)
        have eL : flatL (PX.map (·.1)) = (L3 ++ [y], z) := by
          rw [HPX.out, flatL_snoc, HF.out, hfs]
        have hC6 : Coll w.heap.size B 68 25 1 ((W5.setCell ⟨B, 0, none⟩ (.slice A5 (N3 + 1) c5)).setCell ⟨B + 1, 0, none⟩ (.int .i64 z)) (.slice A5 (N3 + 1) c5) (flatL (PX.map (·.1))).1.length ((flatL (PX.map (·.1))).1.map vv) := by
          refine ⟨(hbB.set_ 0 _).far (by simp) _, ?_, fun g hg => ?_⟩
          · rw [eL, List.length_append, List.length_singleton, ← HLN.out, List.map_append, List.map_singleton]
            exact (((Keeps.refl (fun i => i = B ∨ i = B + 1) W5).setCell (p := ⟨B, 0, none⟩) (.inl (.inl rfl)) _).setCell (p := ⟨B + 1, 0, none⟩) (.inl (.inr rfl)) _).own hown5 (fun g hg e => by rcases e with rfl | rfl; exact hnb hg; exact hnc hg)
          · rcases hbk5 with e | e
            · rw [e] at hg
              exact HC.out.hi g hg
            · rw [e] at hg
              injection hg with hg
              have := hU4.size
              have := H12.out.1.size
              omega
        have hC7 : Blk ((W5.setCell ⟨B, 0, none⟩ (.slice A5 (N3 + 1) c5)).setCell ⟨B + 1, 0, none⟩ (.int .i64 z)) (B + 1) 3 [.int .i64 z] := (hbC.far (p := ⟨B, 0, none⟩) (by simp) _).set_ 0 _
        have hkp : KpO (OwnB [B, B + 1]) W ((W5.setCell ⟨B, 0, none⟩ (.slice A5 (N3 + 1) c5)).setCell ⟨B + 1, 0, none⟩ (.int .i64 z)) := Coll.kp2 HC.out hC6 hC7 hU6 (hbk5.imp id (fun h => ⟨_, h, hU4.size⟩))
        refine ⟨keepsFrom_of _ hU6 (fun i hi => ?_), hkp, H12.out.1.trans hU6 (fun i hi e => ?_), H12.out.2.kp hkp, ⟨_, hC6⟩, ?_⟩
        · rcases hi with rfl | rfl | hi
          · exact ⟨_, _, _, HC.out.blk⟩
          · exact ⟨_, _, _, HB4.out⟩
          · exact own_cells HC.out.own i hi
        · have h7 := HBW.out
          rcases e with rfl | rfl | e
          · omega
          · omega
          · have := HC.out.hi i e
            omega
        · rw [eL]
          exact hC7)
      have HSTAY : Hid (∀ (W4 : World), Keeps (fun _ => False) W W4 → flatS (L3, W0) (d0, xt) = (L3, 0) →
          KeepsFrom w2.heap.size W (W4.setCell ⟨B + 1, 0, none⟩ (.int .i64 0)) ∧ KpO (OwnB [B, B + 1]) W (W4.setCell ⟨B + 1, 0, none⟩ (.int .i64 0)) ∧ FlatI w B vt PX (W4.setCell ⟨B + 1, 0, none⟩ (.int .i64 0))) := Lib.hid (by
        intro W4 hU4 hfs
        have eL : flatL (PX.map (·.1)) = (L3, 0) := by
          rw [HPX.out, flatL_snoc, HF.out, hfs]
        have hbB := hU4.blk HC.out.blk (fun h => h)
        have hbC := hU4.blk HB4.out (fun h => h)
        have hU6 : Keeps (fun i => i = B ∨ i = B + 1 ∨ (Value.slice A3 N3 c3).ownBlock = some i) W (W4.setCell ⟨B + 1, 0, none⟩ (.int .i64 0)) := (hU4.mono (fun _ _ h => h.elim)).setCell (p := ⟨B + 1, 0, none⟩) (.inl (.inr (.inl rfl))) _
        have hC6 : Coll w.heap.size B 68 25 1 (W4.setCell ⟨B + 1, 0, none⟩ (.int .i64 0)) (.slice A3 N3 c3) (flatL (PX.map (·.1))).1.length ((flatL (PX.map (·.1))).1.map vv) := by
          refine ⟨hbB.far (by simp) _, ?_, HC.out.hi⟩
          rw [eL, ← HLN.out]
          exact ((Keeps.refl (fun i => i = B + 1) W4).setCell (p := ⟨B + 1, 0, none⟩) (.inl rfl) _).own (hU4.own HC.out.own (fun _ _ h => h)) (fun g hg e => by subst e; exact HNC.out hg)
        have hC7 : Blk (W4.setCell ⟨B + 1, 0, none⟩ (.int .i64 0)) (B + 1) 3 [.int .i64 0] := hbC.set_ 0 _
        have hkp := Coll.kp2 HC.out hC6 hC7 hU6 (.inl rfl)
        refine ⟨keepsFrom_of (F := fun i => i = B + 1) _ ((hU4.mono (G := fun i => i = B + 1) (fun _ _ h => h.elim)).setCell (p := ⟨B + 1, 0, none⟩) (.inl rfl) _) (fun i hi => ?_), hkp, H12.out.1.trans ((hU4.mono (G := fun i => i = B + 1) (fun _ _ h => h.elim)).setCell (p := ⟨B + 1, 0, none⟩) (.inl rfl) _) (fun i hi e => ?_), H12.out.2.kp hkp, ⟨_, hC6⟩, ?_⟩
        · subst hi; exact ⟨_, _, _, HB4.out⟩
        · have h7 := HBW.out
          omega
        · rw [eL]
          exact hC7)
      cases xt with
      | nil =>
        simp only [kindF] at hKD
        gi_wp2_with ((try refine ⟨trivial, ?_⟩); (try refine ⟨hdd _, ?_⟩); gi_at_call 29; refine (CallsIn.inRound l (callsIn_wide.2 (hKD _))).mono ?_; rintro e W2 ⟨rfl, hk2⟩; have HK2 := Lib.hid hk2; have cC := (hk2.blk HB4.out (fun h => h)).cell 0; have fC := (hk2.blk HB4.out (fun h => h)).frozen 0; clear hk2)
        exact HSTAY.out _ HK2.out rfl
      | gone =>
        simp only [kindF] at hKD
        gi_wp2_with ((try refine ⟨trivial, ?_⟩); (try refine ⟨hdd _, ?_⟩); gi_at_call 29; refine (CallsIn.inRound l (callsIn_wide.2 (hKD _))).mono ?_; rintro e W2 ⟨rfl, hk2⟩; have HK2 := Lib.hid hk2; have cC := (hk2.blk HB4.out (fun h => h)).cell 0; have fC := (hk2.blk HB4.out (fun h => h)).frozen 0; clear hk2)
        exact HSTAY.out _ HK2.out rfl
      | note b wd e =>
        simp only [kindF] at hKD
        gi_wp2_with ((try refine ⟨trivial, ?_⟩); (try refine ⟨hdd _, ?_⟩); gi_at_call 29; refine (CallsIn.inRound l (callsIn_wide.2 (hKD _))).mono ?_; rintro e W2 ⟨rfl, hk2⟩; have HK2 := Lib.hid hk2; have cC := (hk2.blk HB4.out (fun h => h)).cell 0; have fC := (hk2.blk HB4.out (fun h => h)).frozen 0; clear hk2)
        exact HSTAY.out _ HK2.out rfl
      | all A0 c0 l0 =>
        simp only [kindF] at hKD
        gi_wp2_with ((try refine ⟨trivial, ?_⟩); (try refine ⟨hdd _, ?_⟩); gi_at_call 29; refine (CallsIn.inRound l (callsIn_wide.2 (hKD _))).mono ?_; rintro e W2 ⟨rfl, hk2⟩; have HK2 := Lib.hid hk2; have cC := (hk2.blk HB4.out (fun h => h)).cell 0; have fC := (hk2.blk HB4.out (fun h => h)).frozen 0; clear hk2)
        exact HSTAY.out _ HK2.out rfl
      | spot n0 a0 =>
        simp only [vv, kindF] at hKD ⊢
        gi_wp2_with (first
          | ((try refine ⟨trivial, ?_⟩); (try refine ⟨hdd _, ?_⟩); gi_at_call 29; refine (CallsIn.inRound l (callsIn_wide.2 (hKD _))).mono ?_; rintro e W2 ⟨rfl, hk2⟩; have HK2 := Lib.hid hk2; have cB := (hk2.blk HC.out.blk (fun h => h)).cell 0; clear hk2)
          | (gi_at_builtin; refine wpListIn_append_at _ rfl (.tmp 33) (.tmp 35) 68 rfl 25 .nilIface 1 16 Try.underlying68 infoErrZ rfl (by decide) A3 N3 c3 (L3.map vv) rfl ((HK2.out.alloc _).own HC.out.own (fun _ _ h => h)) ⟨W2.heap.size, 0, none⟩ 1 1 [vv (.spot n0 a0)] rfl rfl (fun j u hu => by rw [add_at, Nat.zero_add]; exact ((Blk.new W2 25 [vv (.spot n0 a0)]).cell j).trans hu) (fun u hu => by rw [List.mem_singleton.1 hu]; exact vv_one _) (by have := HLT.out; simp only [maxLen]; omega) (by have := HLT.out; omega) ?_; intro A5 c5 W5 hown5 hg5 hbk5; have h5 := HADD.out _ W5 A5 c5 (.spot n0 a0) ((d0 : Int) + 1) (HK2.out.alloc _) hown5 hg5 hbk5 rfl; have q0 := h5.1.1.cell 0; have q1 := h5.1.1.frozen 0; have q2 := h5.1.2.cell 0; have q3 := h5.1.2.frozen 0; have H5 := Lib.hid h5.2; clear h5 hown5 hg5 hbk5))
        exact H5.out
      | trail n0 t0 =>
        simp only [vv, kindF] at hKD ⊢
        gi_wp2_with (first
          | ((try refine ⟨trivial, ?_⟩); (try refine ⟨hdd _, ?_⟩); gi_at_call 29; refine (CallsIn.inRound l (callsIn_wide.2 (hKD _))).mono ?_; rintro e W2 ⟨rfl, hk2⟩; have HK2 := Lib.hid hk2; have cB := (hk2.blk HC.out.blk (fun h => h)).cell 0; clear hk2)
          | (gi_at_builtin; refine wpListIn_append_at _ rfl (.tmp 33) (.tmp 35) 68 rfl 25 .nilIface 1 16 Try.underlying68 infoErrZ rfl (by decide) A3 N3 c3 (L3.map vv) rfl ((HK2.out.alloc _).own HC.out.own (fun _ _ h => h)) ⟨W2.heap.size, 0, none⟩ 1 1 [vv (.trail n0 t0)] rfl rfl (fun j u hu => by rw [add_at, Nat.zero_add]; exact ((Blk.new W2 25 [vv (.trail n0 t0)]).cell j).trans hu) (fun u hu => by rw [List.mem_singleton.1 hu]; exact vv_one _) (by have := HLT.out; simp only [maxLen]; omega) (by have := HLT.out; omega) ?_; intro A5 c5 W5 hown5 hg5 hbk5; have h5 := HADD.out _ W5 A5 c5 (.trail n0 t0) ((d0 : Int) + 1) (HK2.out.alloc _) hown5 hg5 hbk5 rfl; have q0 := h5.1.1.cell 0; have q1 := h5.1.1.frozen 0; have q2 := h5.1.2.cell 0; have q3 := h5.1.2.frozen 0; have H5 := Lib.hid h5.2; clear h5 hown5 hg5 hbk5))
        exact H5.out
      | num n0 =>
        simp only [vv, kindF] at hKD ⊢
        by_cases hdw : (d0 : Int) = W0
        · have HDW : Hid (flatS (L3, W0) (d0, VT.num n0) = (L3, 0)) := Lib.hid (by simp only [flatS]; rw [if_pos hdw])
          have hdq : ((d0 : Int) == W0) = true := by simp [hdw]
          gi_wp2_with ((try refine ⟨trivial, ?_⟩); (try refine ⟨hdd _, ?_⟩); gi_at_call 29; refine (CallsIn.inRound l (callsIn_wide.2 (hKD _))).mono ?_; rintro e W2 ⟨rfl, hk2⟩; have HK2 := Lib.hid hk2; have cC := (hk2.blk HB4.out (fun h => h)).cell 0; have fC := (hk2.blk HB4.out (fun h => h)).frozen 0; clear hk2)
          exact HSTAY.out _ HK2.out HDW.out
        · have HDW : Hid (flatS (L3, W0) (d0, VT.num n0) = (L3 ++ [.num n0], 0)) := Lib.hid (by simp only [flatS]; rw [if_neg hdw])
          have hdq : ((d0 : Int) == W0) = false := by simp [hdw]
          gi_wp2_with (first
            | ((try refine ⟨trivial, ?_⟩); (try refine ⟨hdd _, ?_⟩); gi_at_call 29; refine (CallsIn.inRound l (callsIn_wide.2 (hKD _))).mono ?_; rintro e W2 ⟨rfl, hk2⟩; have HK2 := Lib.hid hk2; have cB := (hk2.blk HC.out.blk (fun h => h)).cell 0; have cC := (hk2.blk HB4.out (fun h => h)).cell 0; clear hk2)
            | (gi_at_builtin; refine wpListIn_append_at _ rfl (.tmp 47) (.tmp 49) 68 rfl 25 .nilIface 1 16 Try.underlying68 infoErrZ rfl (by decide) A3 N3 c3 (L3.map vv) rfl ((HK2.out.alloc _).own HC.out.own (fun _ _ h => h)) ⟨W2.heap.size, 0, none⟩ 1 1 [vv (.num n0)] rfl rfl (fun j u hu => by rw [add_at, Nat.zero_add]; exact ((Blk.new W2 25 [vv (.num n0)]).cell j).trans hu) (fun u hu => by rw [List.mem_singleton.1 hu]; exact vv_one _) (by have := HLT.out; simp only [maxLen]; omega) (by have := HLT.out; omega) ?_; intro A5 c5 W5 hown5 hg5 hbk5; have h5 := HADD.out _ W5 A5 c5 (.num n0) (0) (HK2.out.alloc _) hown5 hg5 hbk5 HDW.out; have q0 := h5.1.1.cell 0; have q1 := h5.1.1.frozen 0; have q2 := h5.1.2.cell 0; have q3 := h5.1.2.frozen 0; have H5 := Lib.hid h5.2; clear h5 hown5 hg5 hbk5))
          exact H5.out
  
    case done =>
      rintro D ys W hD hys ⟨h1, h2, ⟨v, h3⟩, h4⟩ hK
      rw [show ys.map (·.1) = vt.items 1 from hys] at h3
      have hlen : (flatL (vt.items 1)).1.length ≤ 131072 := by
        have h5 := flatL_len (vt.items 1)
        have h6 := HCN.out
        rw [← e1, VT.count_erase] at h6
        simp only [VT.count] at h6
        omega
      have hpl := flatL_plain (vt.items 1)
      have hfe : flatL (t.items 1) = flatL (vt.items 1) := by rw [← e1, flatL_erase]
      obtain ⟨FL, hFL⟩ : ∃ L, L = (flatL (vt.items 1)).1 := ⟨_, rfl⟩
      rw [← hFL] at h3 hlen hpl
      have kp : CK w2.heap.size W (W.putObj D (.deferred none)) := CK.putObj hK rfl hD _
      have hkp := kp.keeps h1 hkw2.size
      have HK2 : Hid (∀ ft e, ft.erase = flatT FL → At (fun i => w.heap.size ≤ i) (W.putObj D (.deferred none)) ft → e = .returned (.tuple #[vv ft, .nilIface]) → FlatPost w cs e (W.putObj D (.deferred none))) := Lib.hid fun ft e q1 q2 q3 => by
        refine ⟨hkp, fun er h => (by rw [HBF.out] at h; cases h), fun t2 h => ?_⟩
        rw [HBF.out] at h
        injection h with h
        subst h
        exact ⟨ft, by rw [q1, hfe, hFL], q3, q2⟩
      obtain ⟨A3, c3, rfl⟩ := own_shape h3.own
      have cB := h3.blk.cell 0
      have HC := Lib.hid (h3.ck kp)
      have HPL := Lib.hid hpl
      have HLE := Lib.hid hlen
      obtain ⟨vtv, hvt⟩ : ∃ v, v = vv vt := ⟨_, rfl⟩
      rw [← hvt]
      clear hvt hFL hfe hpl hkp kp hat hI0 hOB k2 hkw2 hlen
      rcases FL with _ | ⟨y, _ | ⟨y2, L⟩⟩
      · rw [List.length_nil] at cB
        gi_wp2
        refine ⟨by simp, .inl ⟨_, _, rfl, run_takeDeferred hK, ?_⟩⟩
        refine ⟨_, results_tmp2 rfl _ _ _, ?_⟩
        exact HK2.out .nil _ (by simp [VT.erase, flatT]) (by simp [At]) rfl
      · obtain ⟨g, hA⟩ := own_headF h3.own (by simp)
        subst hA
        have c0 : W.cell? ⟨g, 0, none⟩ = some (vv y) := own_cell h3.own 0 (by simp)
        rw [List.length_singleton] at cB
        clear h3
        gi_wp2
        refine ⟨by simp, .inl ⟨_, _, rfl, run_takeDeferred hK, ?_⟩⟩
        refine ⟨_, results_tmp2 rfl _ _ _, ?_⟩
        have hp := HPL.out y (List.mem_cons_self ..)
        exact HK2.out y _ (plain_erase hp) (At.plain hp) rfl
      · obtain ⟨N, hN⟩ : ∃ N, N = (y :: y2 :: L).length := ⟨_, rfl⟩
        have hN2 : (2 : Int) ≤ (N : Int) := by rw [hN]; simp only [List.length_cons]; omega
        have hNL : (N : Int) ≤ 131072 := by have := HLE.out; omega
        rw [← hN] at cB
        have HN := Lib.hid hN
        clear h3 hN
        have e0 : ((N : Int) == 0) = false := by simp; omega
        have e1' : ((N : Int) == 1) = false := by simp; omega
        gi_wp2
        refine ⟨by simp, .inl ⟨_, _, rfl, run_takeDeferred hK, ?_⟩⟩
        refine ⟨_, results_tmp2 rfl _ _ _, ?_⟩
        refine HK2.out (.all A3 c3 (y :: y2 :: L)) _ ?_ ?_ (by simp only [vv]; rw [← HN.out]; rfl)
        · simp only [VT.erase, flatT]
          rw [plain_erases HPL.out]
        · simp only [At]
          exact ⟨by have := HLE.out; omega, HC.out.own, fun g hg => HC.out.hi g hg, fun x hx => At.plain (HPL.out x hx)⟩
end Go.Proofs.Ytinonjfnhedlpaa
