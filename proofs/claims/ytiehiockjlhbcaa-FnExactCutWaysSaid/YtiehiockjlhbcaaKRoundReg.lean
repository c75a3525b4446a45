/- Program-independent: a region that draws its order, inside a round, by the laws that stand outside of fences. Conditions: none beyond those in the statements. -/
import Derived.Test.YtiehiockjlhbcaaKBase
import Derived.Deep.RegionHeld3
namespace Go.Proofs.Ytiehiockjlhbcaa
open Go.RowKit
set_option linter.unusedVariables false

theorem Wide.rows {F : Fence} {n : Nat} {P : Program} {row : String} {args : Array Value} {w : World} {R : Value → World → Prop} (h : Wide F) (c : Rows P row args w R) : RowsIn F n P row args w R := by
  rcases h with rfl | ⟨l, rfl⟩
  · exact fun c1 cs _ => let ⟨v, w', r, s⟩ := c c1 cs; ⟨v, w', r, stepsIn_wide.2 s⟩
  · exact fun c1 cs _ => let ⟨v, w', r, s⟩ := c c1 cs; ⟨v, w', r, stepsIn_wide.2 s⟩
section
variable {F : Fence} {n : Nat} {P : Program} {ops : Array Oper} {md : Region.Mode} {Q : Exit → Act → World → Prop}
theorem wpOpIn_of_wpOp (hF : Wide F) (hnd : noDefer ops = true) (hLO : ¬ LetsOut Q) {i : Nat} {K K' : Act → World → Prop} (h : ∀ a w, K a w → K' a w) {a : Act} {w : World} (hh : wpOp P ops Q i K a w) : wpOpIn F n P ops Q i K' a w := by
  unfold wpOp at hh
  unfold wpOpIn
  split
  · rename_i ho; simp only [ho] at hh; exact h _ _ hh
  · rename_i o ho
    simp only [ho] at hh
    split
    · rename_i hw
      simp only [hw, if_true] at hh
      rcases hh with hh | hh
      · refine ⟨fun f _ => hF.fn f, ?_⟩
        rw [Oper.semAt_eq _ _ _ (noDefer_spec hnd ho)]
        unfold Oper.wp at hh
        generalize (execOp a.eval o).run P w = r at *
        cases r with
        | ok m w' =>
          cases m with
          | value v => exact h _ _ hh
          | skip => exact h _ _ hh
          | defer d => exact h _ _ hh
          | enter f args =>
            have hc : Calls P f args w' _ := hh
            exact ⟨hF.depth, (hF.calls hc).mono fun e w'' he => by
              cases e with
              | returned v => exact h _ _ he
              | panicked ch => exact he
              | outgrown => exact he⟩
          | row row args =>
            have hc : Rows P row args w' _ := hh
            exact ⟨hF.depth, (hF.rows hc).mono fun v w'' he => h _ _ he⟩
          | _ => exact hh.elim
        | halt x w' =>
          cases x with
          | panic v => exact hh
          | _ => exact hh.elim
      · exact absurd hh.2 hLO
    · rename_i hw
      simp only [hw] at hh
      exact ⟨fun f _ => hF.fn f, h _ _ hh⟩
theorem wpAnyIn_of_wpAny (hF : Wide F) (hnd : noDefer ops = true) (hLO : ¬ LetsOut Q) : ∀ (fuel : Nat) (listed : Array Bool) (a : Act) (w : World), wpAny P md ops Q fuel listed a w → wpAnyIn F n P md ops Q fuel listed a w
  | 0, _, _, _, h => h
  | fuel + 1, _, _, _, h => ⟨h.1, fun i hi => wpOpIn_of_wpOp hF hnd hLO (fun a' w' h' => wpAnyIn_of_wpAny hF hnd hLO fuel _ a' w' h') (h.2 i hi)⟩
/-- A region that draws its order, inside a round: a condition S on the world is kept. -/
theorem wpIn_region_held_drew (hF : Wide F) {S : World → Prop} {id : Nat} {a : Act} {w : World} (hm : P.follows .mixedOrders = true) (hnd : noDefer ops = true) (hLO : ¬ LetsOut Q) (hS : S w.drew)
    (h : S w.drew → wpAnyH P .any ops Q S ops.size (Array.replicate ops.size false) a w.drew) : (Code.region id ops true).wpIn F n P Q a w :=
  wpIn_region_any hm (wpAnyIn_of_wpAny hF hnd hLO _ _ _ _ (wpAny_of_held _ _ _ _ (h hS)))
end
end Go.Proofs.Ytiehiockjlhbcaa
