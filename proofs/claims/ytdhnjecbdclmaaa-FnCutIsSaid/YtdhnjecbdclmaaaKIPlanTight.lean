/- PlanTight of a plan: a plan, tight. -/
import Derived.Test.YtdhnjecbdclmaaaKITight1
import Derived.Test.YtdhnjecbdclmaaaKISpecWaysM
import Derived.Test.YtdhnjecbdclmaaaKIPlanTurnM
namespace Go.Proofs.Ytdhnjecbdclmaaa
open Go.RowKit Go.Shelf Go.Proofs.YtdhnjecbdclmaaaW.PrintWords Go.Proofs.YtdhnjecbdclmaaaW.PrintMore
set_option linter.unusedVariables false
set_option linter.unusedSimpArgs false
theorem keptL_at_lt {kept : Nat → Bool} {n r : Nat} (h : r < (keptL kept n).length) : (keptL kept n).getD r 0 < n := by
  have e : (keptL kept n)[r]? = some ((keptL kept n).getD r 0) := by
    rw [List.getD_eq_getElem?_getD, List.getElem?_eq_getElem h]; rfl
  exact List.mem_range.1 (List.mem_filter.1 (List.mem_of_getElem? e)).1
def tightR (p : List ByteArray) : List (List Int) := gridV (tightH (clP p) p.length (wdP p)) (tightW (clP p) p.length (wdP p)) (tightV (clP p) p.length (wdP p))
set_option maxHeartbeats 4000000 in
theorem planTight_any (A : Option Addr) (cap : Nat) (p : List ByteArray) (hp : SmallP p) (w : World) (hr0 : Kd.C Kd.string w A p.length p) (hc0 : p.length ≤ cap) :
    Calls Try.prog 51 #[.slice A p.length cap] w fun e w' => RemadeE p (tightR p) w w' e := by
  have HR := remade_any 109 enter_1 A cap p hp (tightH (clP p) p.length (wdP p)) (tightW (clP p) p.length (wdP p)) (tightV (clP p) p.length (wdP p))
    (fun h => ⟨by have := (planFlat h).high; have := tightH_le (clP p) p.length (wdP p); omega, by have := (planFlat h).wide; have := tightW_le (clP p) p.length (wdP p); omega, fun r c hr hc => clP_small h (keptL_at_lt hr) (keptL_at_lt hc)⟩)
    (fun h fb W hF => tight1_any fb p.length (wdP p) (clP p) (boxesP p) (planFlat h).high (planFlat h).wide W hF) w hr0 hc0
  clear hr0
  go_enter Try.func51, Try.ntmps51
  go_wp2_with fail
  refine HR.mono ?_
  rintro e w1 ⟨⟨A1, c1, ⟨V, b⟩, hv, rfl, h1, h2⟩, hb⟩
  have HC := Aside0.mk (And.intro hv (And.intro h1 (And.intro h2 hb)))
  clear hv h1 h2 hb
  dsimp only
  go_wp2_with fail
  go_ret2
  exact ⟨⟨A1, c1, (V, b), HC.out.1, rfl, HC.out.2.1, HC.out.2.2.1⟩, HC.out.2.2.2⟩
theorem planTight_is (A : Option Addr) (cap : Nat) (p : List ByteArray) (hp : SmallP p) (hpl : planG p = true) (w : World) (hr0 : Kd.C Kd.string w A p.length p) (hc0 : p.length ≤ cap) :
    Calls Try.prog 51 #[.slice A p.length cap] w fun e w' => MadeE (tightV (clP p) p.length (wdP p)) (tightH (clP p) p.length (wdP p)) (tightW (clP p) p.length (wdP p)) w w' e :=
  (planTight_any A cap p hp w hr0 hc0).mono fun e w' h => RemadeE.made hpl (tight_plan hpl) h
end Go.Proofs.Ytdhnjecbdclmaaa
