/-
  THE CARD of BookChecksGrowth: for every input that can be read, the law returns true and all that was stays as it was; the package's two tables hold what the program's text lays (tied).
-/
import Derived.Test.YtknecjjdegngfaaDoorCardK
import Derived.Test.YtknecjjdegngfaaDoorClaimO
import Derived.Test.YtknecjjdegngfaaDoorBookChkGW
namespace Go.Proofs.YtknecjjdegngfaaDoor.bookChecksGrowth
open Go Go.RowKit Go.Sha Go.Aff Go.ChangeShapes Go.WideShapes Go.ChangeAt

theorem readable : ∀ t ∈ Tryd.f7.params.toList, Tryd.prog.readableRec t = true ∧ t < Tryd.prog.types.size := by
  rw [Tryd.params7]
  intro t ht
  simp only [List.mem_cons, List.not_mem_nil, or_false] at ht
  subst ht <;> exact ⟨by kernel_rfl, of_decide_eq_true (by kernel_rfl)⟩

set_option maxRecDepth 100000 in
theorem contract (H : Type) (enc : TypeId × Value → H) (W : World) (base : Nat) (args : Array Value) (ds gs : List (DataW H)) (before : List MemPlace)
    (hval : ∀ (j : Nat) t v, Tryd.f7.params[j]? = some t → args[j]? = some v → Value.okWide Tryd.prog W .any base t v)
    (hW : DataW.Whole enc Tryd.prog Tryd.f7.params.toList Rows.bookChecksGrowthSpec.vars false W args.toList ds gs before) (hk : Rows.uptoSmall H (ds ++ gs) = true)
    (hsz : (DataW.weightsEach Tryd.prog (Tryd.f7.params.toList ++ []) (ds ++ gs)).all (· ≤ reachBytes) = true) (hG : Glob W) :
    Calls Tryd.prog 7 args W fun e W' => ∃ v, e = .returned v ∧ Rows.bookChecksGrowthSpec.post enc Tryd.prog Tryd.f7 false true false false W args v W' := by
  have hW' := hW
  obtain ⟨pA, pV, hA, hV, rfl, _, _⟩ := hW
  rw [Tryd.params7] at hA hval hsz
  obtain ⟨v0, vs0, d0, ds0, p0, q0, hargs, rfl, rfl, h0, r0⟩ := trodAll_cons hA
  obtain ⟨rfl, rfl, rfl⟩ := trodAll_nil r0
  obtain rfl : args = #[v0] := by cases args; simp_all
  obtain ⟨rfl, rfl⟩ := trodVars_none hV
  obtain ⟨Ax, nx, cx, psx, valsx, gm, gn, old, root, Ay, ny, cy, dsy, ofM, ofN, e0, es, rfl, rfl, lex, lx, Rx, Vx, Dx, hold, hroot, Ry, ley⟩ := open_claim (hval 0 50 v0 rfl rfl) h0
  obtain ⟨b1x, b2x⟩ := parts_small Dx
  have b3x := small_at hk (i := 0) rfl
  have b4x := bulk_mem (e0 :: es) 0 e0 rfl
  have b5x : Rows.uptoBulk (DataW.agg (e0 :: es)) = Rows.uptoBulkAll (e0 :: es) + 1 := by simp only [Rows.uptoBulk]
  obtain ⟨POx, PBx⟩ := partsO_of (by rw [lx]; exact Rx) Vx (by omega)
  refine (chkg_any W hG gm gn old root hold hroot ofM ofN Ax nx cx psx lx POx (by omega) lex (by omega) Ay ny cy dsy Ry).mono fun e W' ⟨he, hk'⟩ => ?_
  subst he
  exact ⟨_, rfl, law_post laidOut readable rfl (by kernel_rfl) Tryd.underlying4 ⟨rfl, rfl, rfl⟩ hW' hk'⟩

theorem laid_met (os : Os) : laidMet Tryd.prog Rows.bookChecksGrowthUptoRow.laid ((laidWorld os).forCall (fun _ _ => 0) ⟨#[], #[.agg (claimV (.slice none 0 0) 0 0 (List.replicate 32 0) (List.replicate 32 0) (.slice none 0 0) false false).toArray], []⟩).memory :=
  laidMet_of_run' 8 (by kernel_rfl) (by kernel_rfl)
theorem reads (os : Os) {H : Type} (enc : TypeId × Value → H) : ∃ places, DataW.whole enc Tryd.prog ((laidWorld os).forCall (fun _ _ => 0) ⟨#[], #[.agg (claimV (.slice none 0 0) 0 0 (List.replicate 32 0) (List.replicate 32 0) (.slice none 0 0) false false).toArray], []⟩).memory Tryd.f7.params.toList Rows.bookChecksGrowthSpec.vars false (#[.agg (claimV (.slice none 0 0) 0 0 (List.replicate 32 0) (List.replicate 32 0) (.slice none 0 0) false false).toArray] : Array Value).toList 8 = some ([.agg [.nil, .lit (.int .i64 0), .lit (.int .i64 0), .agg ((List.replicate 32 (0 : Int)).map fun z => .lit (.int .u8 z)), .agg ((List.replicate 32 (0 : Int)).map fun z => .lit (.int .u8 z)), .nil, .lit (.bool false), .lit (.bool false)]], [], places) :=
  ⟨[], by kernel_rfl⟩

set_option maxRecDepth 100000 in
theorem lifted (os : Os) (started : os.Started) (H : Type) (enc : TypeId × Value → H) (F : Stop.Interp) :
    ReturnsInHanded {} Tryd.checked os 7 .any ((Rows.OpenSpec.upto Rows.bookChecksGrowthSpec).preRow enc Tryd.prog Tryd.f7 Rows.bookChecksGrowthUptoRow.domain false Rows.bookChecksGrowthUptoRow.laid) (((Rows.OpenSpec.upto Rows.bookChecksGrowthSpec).at F).post enc Tryd.prog Tryd.f7 false true false false) := by
  obtain ⟨places, hx⟩ := reads os enc
  refine returnsInHanded_of_row (C := Tryd.checked) (s := Rows.OpenSpec.upto Rows.bookChecksGrowthSpec) own started (by kernel_rfl) Tryd.func7
    (witness_row_at (enc := enc) (C := Tryd.checked) false (laidWorld os) #[.agg (claimV (.slice none 0 0) 0 0 (List.replicate 32 0) (List.replicate 32 0) (.slice none 0 0) false false).toArray] rfl (by kernel_rfl) (by kernel_rfl) (by kernel_rfl)
      (OpenSpec.preRow_of_cond 8 hx (by kernel_rfl) (fun k hk => by cases hk; kernel_rfl) (by kernel_rfl) (laid_met os))) ?_
  intro W base args ds gs before hval hW _ hcond hsz hL _ _
  exact contract H enc W base args ds gs before hval hW (hcond _ rfl) hsz (glob_of_laid hL)

theorem said : Rows.BookChecksGrowthUptoSaid :=
  OpenClaim.holds_of_cond 7 Tryd.f7 rfl rfl rfl rfl rfl rfl rfl ⟨rfl, rfl, rfl, rfl, rfl⟩ rfl rfl rfl rfl rfl (by kernel_rfl) Tryd.func7 (by kernel_rfl)
    (of_decide_eq_true (by kernel_rfl)) (by unfold Func.isWrapper; first | (rw [if_pos (by decide +kernel)]; kernel_rfl) | (rw [if_neg (by decide +kernel)]; exact ⟨rfl, rfl⟩))
    (fun os started H enc _ F => by rw [OpenClaim.pre_eq_preRow]; exact lifted os started H enc F)

theorem plain (f : FuncId) (fn : Func) (hf : Tryd.pinned.checked.prog.funcNamed "affidavit/affidavitlaw27.BookChecksGrowth" = some f) (hfn : Tryd.pinned.checked.prog.funcs[f]? = some fn) :
    true = Tryd.pinned.checked.prog.looks [] ∧ ∀ (j : Nat) t, fn.params[j]? = some t → Tryd.pinned.checked.prog.wantsStandIn t = false := by
  obtain rfl : f = 7 := Option.some.inj ((show Tryd.prog.funcNamed "affidavit/affidavitlaw27.BookChecksGrowth" = some 7 by kernel_rfl).symm.trans hf) |>.symm
  obtain rfl : fn = Tryd.f7 := (Option.some.inj (Tryd.func7.symm.trans hfn)).symm
  refine ⟨by kernel_rfl, fun j t ht => ?_⟩
  rw [Tryd.params7] at ht
  have hm := Array.mem_of_getElem? ht
  simp only [List.mem_toArray, List.mem_cons, List.not_mem_nil, or_false] at hm
  subst hm
  exact (show Tryd.prog.wantsStandIn 50 = false by kernel_rfl)

/-- THE CARD. -/
theorem card : Rows.BookChecksGrowthUptoCardSaid :=
  Claim7.holds_tied_plain_at .later [] _ _ _ _ said (fun _ h => by cases h) (by kernel_rfl) (fun _ h => by cases h) bookChecksGrowthUpto_row_tie rfl ⟨rfl, rfl⟩ (by kernel_rfl) rfl plain (by kernel_rfl)
end Go.Proofs.YtknecjjdegngfaaDoor.bookChecksGrowth
