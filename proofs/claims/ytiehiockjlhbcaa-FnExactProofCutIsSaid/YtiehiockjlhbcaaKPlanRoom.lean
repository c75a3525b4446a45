/- A room's rectangle of a plan, as the reference reads it. -/
import Derived.Test.YtiehiockjlhbcaaKLettersM
namespace Go.Proofs.Ytiehiockjlhbcaa
open Go.RowKit Go.Shelf Go.Proofs.YtiehiockjlhbcaaW.PrintWords Go.Proofs.YtiehiockjlhbcaaW.PrintMore
set_option linter.unusedVariables false

theorem w_id {x : Int} (h1 : -100000000 ≤ x) (h2 : x ≤ 100000000) : wrap64 x = x := by unfold wrap64; omega
/-- A room's rectangle, as the reference reads it. -/
theorem plan_room {p : List ByteArray} (h : planG p = true) (k : Nat) (hk : k < (boxesP p).length) : Ev (fun n => L2.spec_l1Room.f n p (k : Int)) (boxesP p)[k] := by
  have F := planFacts h
  obtain ⟨hT, h1, h3⟩ := textGrid_of F.let_ F.shape
  have hN := named_of F.let_ F.shape F.named
  change Named (wdP p) (fP p) (p.length * wdP p) at hN
  have hsl := scan_len (w := wdP p) (f := fP p) (p.length * wdP p)
  have hbl : (boxesP p).length = (scan (wdP p) (fP p) (p.length * wdP p)).1.length := by rw [boxesP_scan, hsl]
  have hk1 : k < (scan (wdP p) (fP p) (p.length * wdP p)).1.length := by rw [← hbl]; exact hk
  have hk2 : k < (scan (wdP p) (fP p) (p.length * wdP p)).2.length := by rw [← hsl]; exact hk1
  have hbx := scan_box (w := wdP p) (f := fP p) (p.length * wdP p) k hk1 hk2
  rw [named_ord hN k hk1] at hbx
  have hex : ∃ m, m < p.length * wdP p ∧ fP p m = 97 + (k : Int) := by
    obtain ⟨m, a, b, _⟩ := hbx.top
    exact ⟨m, a, b⟩
  have hfew := F.few
  obtain ⟨ko, b, hko, hb⟩ := room_f hT h1 (k : Int) ⟨by omega, by omega⟩ hex
  have hbe := hb.unique hbx
  subst hbe
  refine ⟨ko, fun n hn => ?_⟩
  have hO := up (g := fun k' => L2.spec_l1Room.f k' p (k : Int)) (fun k' => L2.spec_l1Room.mono p (k : Int) k') hko (n - ko)
  rw [show ko + (n - ko) = n by omega] at hO
  show L2.spec_l1Room.f n p (k : Int) = _
  rw [hO]
  simp only [boxesP_scan]
end Go.Proofs.Ytiehiockjlhbcaa
