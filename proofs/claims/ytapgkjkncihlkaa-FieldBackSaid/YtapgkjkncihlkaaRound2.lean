/- In a round of a range over a function: a region that draws its order, walked by the plain calculus with facts held ('go_region_held3'). -/
import Derived.Test.YtapgkjkncihlkaaRound
import Derived.Deep.RegionHeld3
namespace Go.Proofs.Ytapgkjkncihlkaa.Round
open Go

/-- The post of a region that ends as it should. -/
def OnlyN (Q : Exit → Act → World → Prop) : Exit → Act → World → Prop
  | .normal, a, w => Q .normal a w
  | _, _, _ => False
theorem OnlyN.normal {Q : Exit → Act → World → Prop} {a : Act} {w : World} (h : Q .normal a w) : OnlyN Q .normal a w := h

section
variable {P : Program} {n : Nat} {ops : Array Oper} {Q : Exit → Act → World → Prop}

theorem uponIn_plain {o : Oper} {a : Act} {K : Act → World → Prop} {r : Result Next} (h : o.upon P a K (OnlyN Q) r) : o.uponIn Fence.wide n P a K Q r := by
  unfold Oper.upon at h
  unfold Oper.uponIn
  split at h
  · exact h
  · exact h
  · exact h
  · refine ⟨(fun e => by cases e), callsIn_wide.2 (h.mono fun e w' he => ?_)⟩
    cases e with
    | returned v => exact he
    | panicked c => exact he.elim
    | outgrown => obtain ⟨_, _, hf⟩ := he; exact hf.elim
  · refine ⟨(fun e => by cases e), fun c cs _ => ?_⟩
    obtain ⟨v, w', hr, hs⟩ := h c cs
    exact ⟨v, w', hr, stepsIn_wide.2 hs⟩
  · exact h.elim
  · exact h.elim

theorem wpAnyIn_plain {md : Region.Mode} : ∀ (fuel : Nat) (listed : Array Bool) (a : Act) (w : World), noDefer ops = true → wpAny P md ops (OnlyN Q) fuel listed a w → wpAnyIn Fence.wide n P md ops Q fuel listed a w
  | 0, _, _, _, _, h => h
  | fuel + 1, listed, a, w, hd, h => by
    refine ⟨h.1, fun i hi => ?_⟩
    have h2 := h.2 i hi
    unfold wpOp at h2
    unfold wpOpIn
    cases ho : ops[i]? with
    | none => rw [ho] at h2; exact wpAnyIn_plain fuel _ a w hd h2
    | some o =>
      rw [ho] at h2
      dsimp only at h2 ⊢
      split
      · rename_i hw
        rw [if_pos hw] at h2
        rcases h2 with h2 | ⟨_, _, _, hf⟩
        · refine Oper.wpIn_mono (fun a w => wpAnyIn_plain fuel _ a w hd) ?_
          unfold Oper.wpIn
          refine ⟨fun _ _ => trivial, ?_⟩
          rw [Oper.semAt_eq _ _ _ (noDefer_spec hd ho)]
          exact uponIn_plain h2
        · exact hf.elim
      · rename_i hw
        rw [if_neg hw] at h2
        exact ⟨fun _ _ => trivial, wpAnyIn_plain fuel _ _ _ hd h2⟩

/-- The beginning of the walk. -/
theorem held_round {l id : Nat} {S : World → Prop} {a : Act} {w : World} (hm : P.follows .mixedOrders = true) (hd : noDefer ops = true) (hS : S w.drew)
    (h : S w.drew → wpAnyH P .any ops (OnlyN Q) S ops.size (Array.replicate ops.size false) a w.drew) : (Code.region id ops true).wpIn (Fence.wide.inRound l) n P Q a w :=
  region_round hm hd (wpAnyIn_plain _ _ _ _ hd (wpAny_of_held _ _ _ _ (h hS)))
end

open Lean Elab Tactic in
/-- go_region_held3 in a round. -/
elab "gr_held " S:term:max ppSpace "(" keep:tactic ")" ppSpace "(" tac:tactic ")" : tactic => withMainContext do
  evalTactic (← `(tactic| refine held_round (S := $S) (by kernel_rfl) (by kernel_rfl) ?_ (fun hHeld => ?_)))
  let gs ← getGoals
  let [hS, rest] := gs | throwError "gr_held: two goals expected at the beginning"
  setGoals [hS]
  evalTactic (← `(tactic| try dsimp only))
  unless (← getUnsolvedGoals).isEmpty do evalTactic keep
  setGoals [rest]
  let msgs ← Core.getMessageLog
  regionWalkH3 keep tac false
  Core.setMessageLog msgs
  evalTactic (← `(tactic| all_goals (refine OnlyN.normal ?_)))
end Go.Proofs.Ytapgkjkncihlkaa.Round
