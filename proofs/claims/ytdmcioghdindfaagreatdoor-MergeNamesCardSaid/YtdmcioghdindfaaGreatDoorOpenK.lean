/-
  a law's post; opening arguments.
-/
import Derived.Test.YtdmcioghdindfaaGreatDoorMemK
import Derived.ChangeSame
import Derived.Carry
import Derived.ReadAgain
import Derived.OpenShut
import Derived.ChangeSlices
import Derived.WideShapes
import Derived.SizedLaws
import Derived.Deep.Matrix
set_option linter.unusedSimpArgs false
namespace Go.Aff
open Go Go.RowKit Go.ChangeShapes Go.WideShapes
section
variable {H : Type} {enc : TypeId × Value → H} {P : Program}

theorem trodAll_stays (hl : laidOutB P = true) {W W' : World} {sp : Nat → Bool} : ∀ {ts : List TypeId} {vs : List Value} {ds : List (DataW H)} {ps : List MemPlace}, (∀ t ∈ ts, P.readableRec t = true ∧ t < P.types.size) →
    DataW.TrodAll enc P W 0 (fun _ => true) true ts vs ds ps → (∀ p ∈ ps, W.sameAt W' p) → (∀ p ∈ ps, sp p.block = true) → DataW.TrodAll enc P W' 0 sp true ts vs ds ps
  | [], [], [], _, _, h, _, _ => h
  | t :: ts, v :: vs, d :: ds, ps, ht, h, hs, hp => by
    obtain ⟨p, q, h1, h2, rfl⟩ := h
    exact ⟨p, q, WideElems.Trod_stays hl (ht t (by simp)).1 (ht t (by simp)).2 h1 (fun x hx => hs x (by simp [hx])) (fun x hx => hp x (by simp [hx])),
      trodAll_stays hl (fun u hu => ht u (by simp [hu])) h2 (fun x hx => hs x (by simp [hx])) (fun x hx => hp x (by simp [hx])), rfl⟩
  | [], _ :: _, _, _, _, h, _, _ => h.elim
  | [], [], _ :: _, _, _, h, _, _ => h.elim
  | _ :: _, [], _, _, _, h, _, _ => h.elim
  | _ :: _, _ :: _, [], _, _, h, _, _ => h.elim

/-- THE POST of a law that returned true, in a world whose old blocks stand. -/
theorem law_post {f : Func} {s : ChangeSpec} {apart fresh handsOn again : Bool} {W W' : World} {args : Array Value} {ds gs : List (DataW H)} {before : List MemPlace} {tb : TypeId}
    (hl : laidOutB P = true) (ht : ∀ t ∈ f.params.toList, P.readableRec t = true ∧ t < P.types.size) (hv : s.vars = []) (hrt : f.resultTypes = #[tb]) (htb : P.underlying tb = some .bool)
    (hfn : (s.fn H ds).results = [.lit (.bool true)] ∧ (s.fn H ds).args = ds ∧ (s.fn H ds).vars = [])
    (hW : DataW.Whole enc P f.params.toList s.vars apart W args.toList ds gs before) (hk : Keeps (fun _ => False) W W') : s.post enc P f apart fresh handsOn again W args (.bool true) W' := by
  have hW0 := hW
  obtain ⟨pa, pv, hA, hV, hps, hz, hn⟩ := hW
  rw [hv] at hV
  obtain ⟨rfl, rfl⟩ := trodVars_none hV
  have hb : Below W.heap.size W W' := hk.to_below (fun _ _ h => h)
  have hlt : ∀ p ∈ before, p.block < W.heap.size := fun p hp => hW0.lt p hp
  have hsame : ∀ p ∈ before, W.sameAt W' p := fun p hp => hb.same (hlt p hp)
  rw [List.append_nil] at hps
  subst hps
  have hold : ∀ p ∈ before, (fun b => decide (b < W.heap.size)) p.block = true := fun p hp => by simpa using hlt p hp
  have hres : ∀ (b : Nat) (sp : Nat → Bool) (hd : Bool), DataW.TrodAll enc P W' b sp hd f.resultTypes.toList ((Value.bool true).resultList f.resultTypes.size) (s.fn H (ds ++ [])).results [] := by
    intro b sp hd
    rw [List.append_nil, hfn.1, hrt]
    exact trodAll_cons_mk (shut_bool htb true) trodAll_mk0
  have hargs : ∀ sp : Nat → Bool, (∀ p ∈ before, sp p.block = true) → DataW.TrodAll enc P W' 0 sp true f.params.toList args.toList (s.fn H (ds ++ [])).args before := by
    intro sp hsp
    rw [List.append_nil, hfn.2.1]
    exact trodAll_stays hl ht hA hsame hsp
  have hvars : ∀ sp : Nat → Bool, DataW.TrodVars enc P W' sp s.vars (s.fn H (ds ++ [])).vars [] := by
    intro sp
    rw [List.append_nil, hfn.2.2, hv]
    rfl
  refine ⟨ds, [], before, [], before, [], hW0, hres _ _ _, hargs _ hold, hvars _, hb.frame _, fun _ => ?_⟩
  refine ⟨?_, _, _, ([] ++ before) ++ [], ⟨[] ++ before, [], trodAll_append (hargs _ (fun _ _ => rfl)) (hres _ _ _), hvars _, rfl, ?_, ?_⟩, ?_⟩
  · exact ok_one hrt rfl (okWide_bool_mk htb true)
  · intro b off hp
    have hp' : MemPlace.cell b off ∈ before := by simpa using hp
    have : W'.frozen? ⟨b, off, none⟩ = W.frozen? ⟨b, off, none⟩ := by
      unfold World.frozen?
      rw [hb.block b (hlt _ hp')]
    rw [this]
    exact hz b off hp'
  · intro ha
    simpa using hn ha
  · intro p hp _
    simpa using hp
end
end Go.Aff

namespace Go.Aff
open Go Go.RowKit Go.ChangeShapes Go.WideShapes

/-- Integers as values. -/
def vi (k : IntKind) (zs : List Int) : List Value := zs.map (Value.int k)
theorem vi_u8 (zs : List Int) : vi .u8 zs = vb zs := rfl
theorem isBytes_of {zs : List Int} (h : ∀ z ∈ zs, (Lit.int .u8 z).wf = true) : IsBytes zs := fun x hx => by
  have := bounds_u8 (h x hx)
  omega

section
variable {H : Type} {enc : TypeId × Value → H} {P : Program} {w : World} {base : Nat} {held : Bool}

theorem okWide_array {r : Reach} {b0 n : Nat} {t e : TypeId} {v : Value} (ht : P.underlying t = some (.array n e)) (h : Value.okWide P w r b0 t v) : ∃ cs, v = .agg cs ∧ cs.size = P.cellsOf t := by
  simp only [Value.okWide, ht] at h
  obtain ⟨cs, h1, h2, _⟩ := h
  exact ⟨cs, h1, h2⟩

/-- The integers of a row whose cells each read as one. -/
theorem ints_of_cells {k : IntKind} : ∀ (cs : List Value), (∀ i, i < cs.length → ∃ z, cs[i]? = some (.int k z) ∧ (Lit.int k z).wf = true) → ∃ zs : List Int, cs = vi k zs ∧ ∀ z ∈ zs, (Lit.int k z).wf = true
  | [], _ => ⟨[], rfl, fun z hz => by cases hz⟩
  | c :: cs, h => by
    obtain ⟨z, hz, wz⟩ := h 0 (by simp)
    obtain ⟨zs, rfl, hw⟩ := ints_of_cells cs (fun i hi => by obtain ⟨z, h1, h2⟩ := h (i + 1) (by simp; omega); exact ⟨z, by simpa using h1, h2⟩)
    have hc : c = .int k z := by simpa using hz
    subst hc
    refine ⟨z :: zs, rfl, fun y hy => ?_⟩
    rcases List.mem_cons.1 hy with rfl | hy
    · exact wz
    · exact hw y hy

/-- AN ARRAY OF INTEGERS BY VALUE. -/
theorem open_int_array {r : Reach} {b0 n : Nat} {t e : TypeId} {k : IntKind} {v : Value} {d : DataW H} {p : List MemPlace} {spare : Nat → Bool} (ht : P.underlying t = some (.array n e)) (he : P.underlying e = some (.int k)) (ce : P.cellsOf e = 1) (ct : P.cellsOf t = n)
    (hv : Value.okWide P w r b0 t v) (h : DataW.Trod enc P w base spare held t v d p) : ∃ zs : List Int, v = .agg (vi k zs).toArray ∧ zs.length = n ∧ ∀ z ∈ zs, (Lit.int k z).wf = true := by
  obtain ⟨cs, rfl, hcs⟩ := okWide_array ht hv
  obtain ⟨fuel, hf⟩ := h
  obtain ⟨ys, m, _, _, hl, hyl, hd⟩ := DataW.trod_array ht hf
  rw [ct] at hl hcs
  have hl' : cs.toList.length = n := by simpa using hcs
  obtain ⟨zs, hzs, hw⟩ := ints_of_cells (k := k) cs.toList (fun i hi => by
    have h1 := hd i (by omega)
    rw [ce, Nat.mul_one] at h1
    have h2 : ∃ y, ys[i]? = some y := ⟨_, List.getElem?_eq_getElem (by omega)⟩
    obtain ⟨y, hy⟩ := h2
    rw [hy] at h1
    obtain ⟨z, e1, _, e2⟩ := DataW.trod_int he h1
    refine ⟨z, ?_, e2⟩
    have h3 := congrArg (·[0]?) e1
    simpa [List.getElem?_take, List.getElem?_drop, Value.cells] using h3)
  refine ⟨zs, ?_, ?_, hw⟩
  · rw [← hzs]
  · have := congrArg List.length hzs
    simp [vi] at this
    omega

/-- A SLICE OF INTEGERS. -/
theorem open_int_slice {r : Reach} {b0 : Nat} {t e : TypeId} {k : IntKind} {v : Value} {d : DataW H} {p : List MemPlace} (ht : P.underlying t = some (.slice e)) (he : P.underlying e = some (.int k)) (ce : P.cellsOf e = 1)
    (hv : Value.okWide P w r b0 t v) (h : DataW.Trod enc P w base (fun _ => true) held t v d p) :
    ∃ (A : Option Addr) (n c : Nat) (zs : List Int), v = .slice A n c ∧ n ≤ c ∧ zs.length = c ∧ (∀ z ∈ zs, (Lit.int k z).wf = true) ∧ Rd w A c (vi k zs) ∧
      (d = .nil ∧ A = none ∧ c = 0 ∨ ∃ es sp, d = .slice es sp ∧ es.length + sp.length = c) := by
  obtain ⟨A, n, c, rfl⟩ := okWide_slice ht hv
  obtain ⟨fuel, hf⟩ := h
  rcases open_ints ht he ce hf with ⟨hcs, hx⟩ | ⟨a, len, cap, zs, hcs, _, hl, hm, hz, hx, hcell, hwz⟩
  · simp [Value.cells] at hcs
    obtain ⟨rfl, rfl, rfl⟩ := hcs
    exact ⟨none, 0, 0, [], rfl, Nat.le_refl _, rfl, (fun z hz => by cases hz), ⟨rfl, fun h => absurd h (by omega)⟩, .inl ⟨(by injection hx), rfl, rfl⟩⟩
  · simp [Value.cells] at hcs
    obtain ⟨rfl, rfl, rfl⟩ := hcs
    simp only [if_true] at hz
    refine ⟨some a, n, c, zs, rfl, hl, hz, hwz, ⟨by simp [vi, hz], fun hc => ?_⟩, .inr ⟨lits k (zs.take n), lits k (zs.drop n), by injection hx, by simp [lits, hz]; omega⟩⟩
    obtain ⟨b, off, rfl, hcl⟩ := ints_at hcell (by omega)
    refine ⟨b, off, rfl, fun j hj => ?_⟩
    rw [hcl j (by omega)]
    simp [vi, List.getElem?_eq_getElem (show j < zs.length by omega)]

/-- .. its reach. -/
theorem reach_slice {ts : List TypeId} {ds : List (DataW H)} (hr : (DataW.weightsEach P ts ds).all (· ≤ reachBytes) = true) {j : Nat} {t e : TypeId} {d : DataW H} {A : Option Addr} {c : Nat} (hj : ts[j]? = some t) (hd : ds[j]? = some d) (ht : P.underlying t = some (.slice e))
    (h : d = .nil ∧ A = none ∧ c = 0 ∨ ∃ es sp, d = .slice es sp ∧ es.length + sp.length = c) : c * P.bytesOf e ≤ 140737488351232 := by
  rcases h with ⟨_, _, rfl⟩ | ⟨es, sp, rfl, rfl⟩
  · omega
  · exact sized_slice hr hj hd ht
end
theorem Rd.take_vi {w : World} {A : Option Addr} {c n : Nat} {k : IntKind} {xs : List Int} (h : Rd w A c (vi k xs)) (hn : n ≤ c) : Rd w A n (vi k (xs.take n)) := by
  have := h.take hn
  unfold vi at this ⊢
  rwa [List.map_take]
theorem len_take {xs : List Int} {n c : Nat} (h : xs.length = c) (hn : n ≤ c) : (xs.take n).length = n := by rw [List.length_take]; omega
theorem bytes_take {xs : List Int} {n : Nat} (h : IsBytes xs) : IsBytes (xs.take n) := fun x hx => h x (List.mem_of_mem_take hx)
theorem wf_take {k : IntKind} {xs : List Int} {n : Nat} (h : ∀ z ∈ xs, (Lit.int k z).wf = true) : ∀ z ∈ xs.take n, (Lit.int k z).wf = true := fun z hz => h z (List.mem_of_mem_take hz)
end Go.Aff

