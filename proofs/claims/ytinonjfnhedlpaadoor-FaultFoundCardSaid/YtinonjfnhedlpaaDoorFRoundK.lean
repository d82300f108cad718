/-
  Within a round of a range over a function, at the wide fence: a region that draws its order may be walked by the plain laws.
-/
import Derived.RangeFuncCalls
import Derived.OwnWalkIn
import Derived.OrdersIn
import Derived.Test.YtinonjfnhedlpaaDoorTailK
import Derived.Deep.RegionHeld
set_option linter.unusedSimpArgs false
namespace Go
section
variable {P : Program} {ops : Array Oper} {Q : Exit → Act → World → Prop} {r n : Nat}
def noDefer (ops : Array Oper) : Bool := ops.all fun o => match o.op with
  | .defer _ => false
  | _ => true
theorem uponIn_of_upon {o : Oper} {a : Act} {next next' : Act → World → Prop} {res : Result Next} (hn : ∀ a w, next a w → next' a w) (h : Oper.upon P o a next Q res) : Oper.uponIn (Fence.wide.inRound r) n P o a next' Q res := by
  cases res with
  | ok x w' =>
    cases x with
    | value v => exact hn _ _ h
    | skip => exact hn _ _ h
    | defer d => exact hn _ _ h
    | enter f args =>
      refine ⟨fun h => (by cases h), ?_⟩
      have h1 : CallsIn Fence.wide (n - 1) P f args w' _ := callsIn_wide.2 h
      refine CallsIn.mono h1 fun e w'' he => ?_
      cases e with
      | returned v => exact hn _ _ he
      | panicked c => exact he
      | outgrown => exact he
    | row row args =>
      refine ⟨fun h => (by cases h), fun c cs _ => ?_⟩
      obtain ⟨v, w'', h1, h2⟩ := h c cs
      exact ⟨v, w'', hn _ _ h1, (stepsIn_wide (P := P)).2 h2⟩
    | _ => exact h.elim
  | halt x w' =>
    cases x with
    | panic v => exact h
    | _ => exact h.elim
theorem wpOpsIn_of_wpOps (hQ : ¬ LetsOut Q) (hd : noDefer ops = true) (l : List Nat) : ∀ (a : Act) (w : World), wpOps P ops Q l a w → wpOpsIn (Fence.wide.inRound r) n P ops Q l a w := by
  induction l with
  | nil => exact fun a w h => h
  | cons i l ih =>
    intro a w h
    simp only [wpOps] at h
    simp only [wpOpsIn]
    cases ho : ops[i]? with
    | none => simp only [ho] at h ⊢; exact ih _ _ h
    | some o =>
      simp only [ho] at h ⊢
      split
      · rename_i hw
        rw [if_pos hw] at h
        rcases h with h | ⟨_, h⟩
        · refine ⟨fun _ _ => trivial, ?_⟩
          have hnd : ∀ c, o.op ≠ .defer c := fun c hc => by
            have h1 := Array.all_eq_true'.1 hd o (Array.mem_of_getElem? ho)
            rw [hc] at h1
            cases h1
          rw [show (Fence.wide.inRound r).round = some r from rfl, Oper.semAt_some r _ _ hnd]
          exact uponIn_of_upon ih h
        · exact (hQ h).elim
      · rename_i hw
        rw [if_neg hw] at h
        exact ⟨fun _ _ => trivial, ih _ _ h⟩
theorem wpIn_round_any {id : Nat} {a : Act} {w : World} (hQ : ¬ LetsOut Q) (hd : noDefer ops = true) (hm : P.follows .mixedOrders = true)
    (h : wpAny P .any ops Q ops.size (Array.replicate ops.size false) a w.drew) : (Code.region id ops true).wpIn (Fence.wide.inRound r) n P Q a w :=
  wpIn_region_draw fun t => by
    simp only [Region.schedule, hm, Bool.true_or, if_true]
    exact wpOpsIn_of_wpOps hQ hd _ _ _ (wpAny_sound ops.size t _ a _ h)
theorem wpIn_round_tail {S : World → Prop} {id : Nat} {a : Act} {w : World} (z : Nat) (hQ : ¬ LetsOut Q) (hd : noDefer ops = true) (hm : P.follows .mixedOrders = true) (hS : S w.drew)
    (h : S w.drew → wpAnyT P .any ops Q S z ops.size (Array.replicate ops.size false) a w.drew) : (Code.region id ops true).wpIn (Fence.wide.inRound r) n P Q a w :=
  wpIn_round_any hQ hd hm (wpAny_of_T _ _ _ _ (h hS))
theorem wpIn_round_held {S : World → Prop} {id : Nat} {a : Act} {w : World} (hQ : ¬ LetsOut Q) (hd : noDefer ops = true) (hm : P.follows .mixedOrders = true) (hS : S w.drew)
    (h : S w.drew → wpAnyH P .any ops Q S ops.size (Array.replicate ops.size false) a w.drew) : (Code.region id ops true).wpIn (Fence.wide.inRound r) n P Q a w :=
  wpIn_round_any hQ hd hm (wpAny_of_held _ _ _ _ (h hS))
end
end Go
