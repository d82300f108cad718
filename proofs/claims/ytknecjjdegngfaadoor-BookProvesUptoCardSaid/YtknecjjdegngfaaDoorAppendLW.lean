/-
  WALK: Append where there is too much.
-/
import Derived.Test.YtknecjjdegngfaaDoorAppendW
set_option linter.unusedSimpArgs false
namespace Go.Proofs.YtknecjjdegngfaaDoor
open Go Go.RowKit Go.Sha Go.Aff Go.Book
set_option maxRecDepth 100000 in
set_option maxHeartbeats 8000000 in
theorem Append_long (w : World) (p : Nat) (u l : Value) (es : List (List Int)) (y : Int) (h : BookAt w p u l es y)
    (E : Option Addr) (cE : Nat) (news : List (List Int)) (hr : RdPartsO (fun _ => False) w E news) (hy : 0 ≤ y) (hy2 : y ≤ 16777216) (hes : es.length ≤ 65536) (hn : news.length ≤ 1073741824) (htot : news.flatten.length ≤ 1099511627776)
    (hlong : (∃ bs ∈ news, 1048576 < bs.length) ∨ 16777216 < y + (news.flatten.length : Nat) ∨ 65536 < es.length + news.length) :
    Calls Tryd.prog 33 #[.pointer (some ⟨p, 0, none⟩), .slice E news.length cE] w fun e w' => e = .returned (.tuple #[.int .i64 0, errno 3]) ∧ w' = w := by
  obtain ⟨evals, hv, hvo, hparts⟩ := hr
  have hcells : Hid (∀ k, k < news.length → ∃ g o bs A' c', E = some ⟨g, o, none⟩ ∧ news[k]? = some bs ∧ w.cell? ⟨g, o + k, none⟩ = some (.slice A' bs.length c')) := by
    intro k hlt
    obtain ⟨g, o, e, hc⟩ := hv.2 (by omega)
    obtain ⟨bs, hbs⟩ : ∃ bs, news[k]? = some bs := ⟨_, List.getElem?_eq_getElem hlt⟩
    obtain ⟨A', c', h1, _⟩ := hparts k bs hbs
    exact ⟨g, o, bs, A', c', e, hbs, (hc k hlt).trans h1⟩
  have hle : Hid (∀ k, ((news.take k).flatten.length : Int) ≤ 1099511627776) := Lib.hid fun k => by have := flatten_take_le news k; omega
  obtain ⟨A, c, B, d, rfl, rfl⟩ := h.form
  have e0 := h.1.cell 0
  have e2 := h.1.cell 2
  simp only [List.getElem?_cons_zero, List.getElem?_cons_succ] at e0 e2
  have HEND : Hid ((∀ (i : Nat) (bs : List Int), news[i]? = some bs → bs.length ≤ 1048576) → 16777216 < y + (news.flatten.length : Nat) ∨ (65536 : Int) < (es.length : Int) + (news.length : Int)) := Lib.hid fun ha => by
    rcases hlong with ⟨bs, hb, hl⟩ | hl | hl
    · obtain ⟨i, hi⟩ := List.mem_iff_getElem?.1 hb
      have := ha i bs hi
      omega
    · exact .inl hl
    · exact .inr (by omega)
  obtain ⟨N, hN⟩ : ∃ N, N = news.length := ⟨_, rfl⟩
  have HN := Lib.hid hN
  obtain ⟨m, hm⟩ : ∃ m, m = es.length := ⟨_, rfl⟩
  rw [← hN] at hn HEND ⊢
  rw [← hm] at e0 hes HEND
  clear h hv hvo hparts hN hm hlong htot
  go_enter Tryd.func33, Tryd.ntmps33
  go_wp2
  go_loop [6, 8, 21] (fun b _ i => ∃ (k : Nat) (x : Int), k ≤ N ∧ i = .int .i64 k ∧ b = .int .i64 x ∧ Hid (x = y + ((news.take k).flatten.length : Nat)) ∧ Hid (∀ (i : Nat) (bs : List Int), i < k → news[i]? = some bs → bs.length ≤ 1048576)) (fun _ _ i => N - (intOf i).toNat)
  case atStart => exact ⟨0, y, by omega, rfl, rfl, Lib.hid (by simp), Lib.hid (fun i bs h => by omega)⟩
  case round =>
    obtain ⟨k, x, hk, rfl, rfl, HX, HA⟩ := hrel
    by_cases hlt : k < N
    · obtain ⟨g, o, bs, A1, c1, hA, hbs, hcell⟩ := hcells.out k (by have := HN.out; omega)
      subst hA
      have hs := take_sum news k bs hbs
      have hl1 := hle.out (k + 1)
      have hnx : Hid (x + (bs.length : Int) = y + ((news.take (k + 1)).flatten.length : Nat)) := Lib.hid (by rw [hs, HX.out]; omega)
      have hnb : x + (bs.length : Int) ≤ 1099528404992 := by have := hnx.out; omega
      have hx0 : 0 ≤ x := by have := HX.out; omega
      by_cases hfit : bs.length ≤ 1048576
      · have HA' : Hid (∀ (i : Nat) (b : List Int), i < k + 1 → news[i]? = some b → b.length ≤ 1048576) := Lib.hid fun i b hi hb => by
          rcases Nat.lt_or_ge i k with h9 | h9
          · exact HA.out i b h9 hb
          · obtain rfl : i = k := by omega
            rw [hbs] at hb
            injection hb with hb
            rw [← hb]; exact hfit
        obtain ⟨n, hn⟩ : ∃ n, n = bs.length := ⟨_, rfl⟩
        rw [← hn] at hnx hnb hcell hfit
        have wx : IntKind.i64.wrap (x + (n : Int)) = x + (n : Int) := IntWalk.i64_in _ (by omega)
        have hf' : ¬ (1048576 : Int) < (n : Int) := by omega
        clear hs hl1 hbs hn hfit
        go_wp2
        go_round
        case rel => exact ⟨k + 1, x + (n : Int), by omega, by go_num, rfl, hnx, HA'⟩
        case measure => simp [intOf]; omega
      · obtain ⟨n, hn⟩ : ∃ n, n = bs.length := ⟨_, rfl⟩
        rw [← hn] at hcell hfit
        have hf' : (1048576 : Int) < (n : Int) := by omega
        clear hs hl1 hbs hn hfit hnx hnb
        go_wp2
        go_ret2
        exact ⟨rfl, rfl⟩
    · obtain rfl : k = N := by omega
      have hend := HEND.out (fun i bs hi => HA.out i bs (by have := (List.getElem?_eq_some_iff.1 hi).1; have := HN.out; omega) hi)
      have hxt : x = y + (news.flatten.length : Nat) := by have := HX.out; rw [this, HN.out, List.take_length]
      have hx1 : x ≤ 1099528404992 := by have := HX.out; have := hle.out k; omega
      have hx0 : 0 ≤ x := by omega
      rw [← hxt] at hend
      have wm : IntKind.i64.wrap ((m : Int) + (k : Int)) = (m : Int) + (k : Int) := IntWalk.i64_in _ (by omega)
      clear HX hxt HEND
      by_cases h1 : 16777216 < x
      · clear hend
        go_wp2
        go_ret2
        exact ⟨rfl, rfl⟩
      · have h2 := hend.resolve_left h1
        clear hend
        go_wp2
        go_ret2
        exact ⟨rfl, rfl⟩
end Go.Proofs.YtknecjjdegngfaaDoor
