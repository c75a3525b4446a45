/- Texts of this claim's, joined by a program: DTurned, DTextLen. -/
import Derived.Test.YtdhnjecbdclmaaaKDRemade
import Derived.Test.YtdhnjecbdclmaaaKDSpecTextM
section
namespace Go.Proofs.Ytdhnjecbdclmaaa
open Go.RowKit Go.Shelf Go.Proofs.YtdhnjecbdclmaaaW.PrintWords Go.Proofs.YtdhnjecbdclmaaaW.PrintMore
set_option linter.unusedVariables false
def MadeE (cl : Nat → Nat → Int) (h wd : Nat) (w w' : World) (e : Ending) : Prop := ∃ (q : List ByteArray) (A : Option Addr) (c : Nat), e = .returned (.tuple #[.slice A q.length c, .bool true]) ∧ Aside0 (Planned cl h wd q ∧ SmallP q ∧ q.length ≤ c ∧ Kd.C Kd.string w' A q.length q ∧ Below w.heap.size w w')
theorem RemadeE.made {cl : Nat → Nat → Int} {h wd : Nat} {p : List ByteArray} {R : List (List Int)} {w w' : World} {e : Ending} (hp : planG p = true) (hq : ∃ q, planV R = (q, true) ∧ Planned cl h wd q) (hr : RemadeE p R w w' e) : MadeE cl h wd w w' e := by
  obtain ⟨q, hv, hpl⟩ := hq
  obtain ⟨⟨A, c, V, hV, he, hc, hC⟩, hb⟩ := hr
  rw [if_pos hp, hv] at hV
  subst hV
  exact ⟨q, A, c, he, ⟨hpl, plan_small hpl.plan, hc, hC, hb⟩⟩
theorem planTurn_is (A : Option Addr) (cap : Nat) (p : List ByteArray) (hp : SmallP p) (hpl : planG p = true) (w : World) (hr0 : Kd.C Kd.string w A p.length p) (hc0 : p.length ≤ cap) :
    Calls Try.prog 47 #[.slice A p.length cap] w fun e w' => MadeE (fun r c => clP p (p.length - 1 - c) r) (wdP p) p.length w w' e :=
  (planTurn_any A cap p hp w hr0 hc0).mono fun e w' h => RemadeE.made hpl (turn_plan hpl) h
end Go.Proofs.Ytdhnjecbdclmaaa
end
section
namespace Go.Proofs.Ytdhnjecbdclmaaa
open Go.RowKit Go.Shelf Go.Proofs.YtdhnjecbdclmaaaW.PrintWords Go.Proofs.YtdhnjecbdclmaaaW.PrintMore
set_option linter.unusedVariables false
set_option linter.unusedSimpArgs false
theorem list_all {cl : Nat → Nat → Int} {boxes : List Box} {h wd : Nat} (f : Flat cl boxes h wd) : ∀ n, n ≤ boxes.length → (listL boxes (natB 0 0 h wd) n).length = n := by
  intro n
  induction n with
  | zero => intro _; rfl
  | succ n ih =>
    intro hn
    have hk : n < boxes.length := by omega
    have hy : bothB (natB 0 0 h wd) boxes[n] = natB 0 0 h wd := by
      obtain ⟨a, b, d, e, hb, h1, h2, h3, h4, _⟩ := f.box n hk
      rw [hb, both_within]; omega
    rw [listL_yes hk hy, List.length_append, ih (by omega)]
    rfl
end Go.Proofs.Ytdhnjecbdclmaaa
end
