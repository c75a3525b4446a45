/- Rectangles: the program's both and area. Conditions: numbers of at most 1000. -/
import Derived.Test.YtiehiockjlhbcaaKPlanQ
import Derived.Test.YtiehiockjlhbcaaProg
import Derived.Test.YtiehiockjlhbcaaKWords
import Derived.Deep.QuietTactic
import Derived.BigQuiet
import Derived.Deep.RegionHeld3
namespace Go.Proofs.Ytiehiockjlhbcaa
open Go.RowKit Go.Shelf Go.Proofs.YtiehiockjlhbcaaW.PrintWords Go.Proofs.YtiehiockjlhbcaaW.PrintMore
attribute [local go_sem] max2_int min2_int max_two min_two max_three min_three max_four min_four
set_option linter.unusedVariables false

def boxV (b : Box) : Value := .agg #[.int .i64 b.1, .int .i64 b.2.1, .int .i64 b.2.2.1, .int .i64 b.2.2.2]
def BoxIn (b : Box) : Prop := (0 ≤ b.1 ∧ b.1 ≤ 1000) ∧ (0 ≤ b.2.1 ∧ b.2.1 ≤ 1000) ∧ (0 ≤ b.2.2.1 ∧ b.2.2.1 ≤ 1000) ∧ (0 ≤ b.2.2.2 ∧ b.2.2.2 ≤ 1000)

set_option maxRecDepth 100000 in
set_option maxHeartbeats 4000000 in
theorem area_any (b : Box) (hb : BoxIn b) (w : World) :
    Calls Try.prog 113 #[boxV b] w fun e w' => e = .returned (.int .i64 (areaB b)) ∧ Below w.heap.size w w' := by
  obtain ⟨b0, b1, b2, b3⟩ := b
  obtain ⟨h0, h1, ⟨h2, h3⟩, ⟨h4, h5⟩⟩ := hb
  dsimp only at h2 h3 h4 h5
  have h6 : 0 ≤ b2 * b3 := Int.mul_nonneg h2 h4
  have h7 : b2 * b3 ≤ 1000 * 1000 := Int.mul_le_mul h3 h5 h4 (by omega)
  unfold boxV areaB
  dsimp only
  go_enter Try.func113, Try.ntmps113
  go_wp2
  go_ret
  exact ⟨rfl, (Below.refl _ _).alloc (Nat.le_refl _) _⟩

set_option maxRecDepth 100000 in
set_option maxHeartbeats 8000000 in
theorem both_any (b c : Box) (hb : BoxIn b) (hc : BoxIn c) (w : World) :
    Calls Try.prog 109 #[boxV b, boxV c] w fun e w' => e = .returned (boxV (bothB b c)) ∧ Below w.heap.size w w' := by
  obtain ⟨b0, b1, b2, b3⟩ := b
  obtain ⟨c0, c1, c2, c3⟩ := c
  obtain ⟨⟨p0, p1⟩, ⟨p2, p3⟩, ⟨p4, p5⟩, ⟨p6, p7⟩⟩ := hb
  obtain ⟨⟨q0, q1⟩, ⟨q2, q3⟩, ⟨q4, q5⟩, ⟨q6, q7⟩⟩ := hc
  dsimp only at p0 p1 p2 p3 p4 p5 p6 p7 q0 q1 q2 q3 q4 q5 q6 q7
  unfold boxV bothB
  dsimp only
  go_enter Try.func109, Try.ntmps109
  go_wp2
  go_quiet (fail)
  go_wp2
  all_goals
    refine bodyPost_ret (v := .agg #[.int .i64 (min b0 c0), .int .i64 (min b1 c1), .int .i64 (max (b0 + b2) (c0 + c2) - min b0 c0), .int .i64 (max (b1 + b3) (c1 + c3) - min b1 c1)]) (by simp [results, Try.results109, go_sem]; omega) rfl ⟨rfl, ?_⟩
    repeat (first | exact Below.refl _ _ | refine Below.setCell (B := w.heap.size) (p := ⟨w.heap.size + 1 + 1, _, none⟩) ?_ (by show w.heap.size ≤ w.heap.size + 1 + 1; omega) _ | apply pw_below_drewN | apply below_alloc)
end Go.Proofs.Ytiehiockjlhbcaa
