/- Texts of this claim's, joined by a program: FCodeRow, FRoomsAny, FDrawNear, FExCut, FExTrans. -/
import Derived.Test.YtbpppchkgjcahaaKFPlanDraw
import Derived.Test.YtbpppchkgjcahaaKFSpecGridM
import Derived.Test.YtbpppchkgjcahaaKFExPlanM
import Derived.Test.YtbpppchkgjcahaaKFFloorRM
section
namespace Go.Proofs.Ytbpppchkgjcahaa
open Go.RowKit Go.Shelf Go.Proofs.YtbpppchkgjcahaaW.PrintWords Go.Proofs.YtbpppchkgjcahaaW.PrintMore
set_option linter.unusedVariables false
def CodeRow (w : World) (a0 : Option Addr) (len0 cap0 : Nat) (z0 : List Int) : Prop := (a0 = none ∧ len0 = 0 ∧ cap0 = 0 ∧ z0 = []) ∨ ∃ x, a0 = some x ∧ len0 ≤ cap0 ∧ cap0 ≤ maxLen ∧ z0.length = cap0 ∧ (∀ i, i < z0.length → w.cell? (x.add i) = some (.int .u8 (z0.getD i 0))) ∧ ∀ n ∈ z0, (Lit.int .u8 n).wf = true
theorem CodeRow.code {w : World} {a0 : Option Addr} {len0 cap0 : Nat} {z0 : List Int} (h : CodeRow w a0 len0 cap0 z0) : ∃ bs, Code0 w a0 len0 cap0 bs := by
  obtain ⟨l0, rfl, hr0, hm0, hw0, hc0⟩ := ReadsInt.ofRowC h
  refine ⟨l0, hc0, Kd.C_of_reads (d := (0 : Int)) (h1 := fun _ => rfl) hr0, fun x hx => ?_⟩
  have := hw0 x hx
  unfold Lit.wf at this
  rw [Bool.and_eq_true, decide_eq_true_eq, decide_eq_true_eq] at this
  exact this
end Go.Proofs.Ytbpppchkgjcahaa
end
section
namespace Go.Proofs.Ytbpppchkgjcahaa
open Go.RowKit Go.Shelf Go.Proofs.YtbpppchkgjcahaaW.PrintWords Go.Proofs.YtbpppchkgjcahaaW.PrintMore L2
set_option linter.unusedVariables false
set_option linter.unusedSimpArgs false
end Go.Proofs.Ytbpppchkgjcahaa
end
section
namespace Go.Proofs.Ytbpppchkgjcahaa
open Go.RowKit Go.Shelf Go.Proofs.YtbpppchkgjcahaaW.PrintWords Go.Proofs.YtbpppchkgjcahaaW.PrintMore
set_option linter.unusedVariables false
set_option linter.unusedSimpArgs false
theorem DrawNearMany_any (A : Option Addr) (n cap : Nat) (bs : List Int) (w : World) (h : Code0 w A n cap bs) :
    Calls Try.prog 35 #[.slice A n cap] w fun e w' => DrewOne w w' e := by
  have H := Aside0.mk h
  clear h
  go_enter Try.func35, Try.ntmps35
  go_wp2_with fail
  refine (l91One_any A n cap bs _ H.out).mono ?_
  rintro e w1 ⟨q, A2, c2, rfl, HD⟩
  go_wp2_with fail
  go_ret
  exact ⟨q, A2, c2, rfl, HD⟩
end Go.Proofs.Ytbpppchkgjcahaa
end
section
namespace Go.Proofs.Ytbpppchkgjcahaa
open Go.RowKit Go.Shelf Go.Proofs.YtbpppchkgjcahaaW.PrintWords Go.Proofs.YtbpppchkgjcahaaW.PrintMore
set_option linter.unusedVariables false
open Classical in
noncomputable def tot {α : Type} (g : Nat → Option α) : Option α := if h : ∃ r, Ev g r then some h.choose else none
theorem Ev.uniq {α : Type} {g : Nat → Option α} {r s : α} (h : Ev g r) (k : Ev g s) : r = s := by
  obtain ⟨a, h⟩ := h
  obtain ⟨b, k⟩ := k
  exact Option.some.inj ((h (a + b) (by omega)).symm.trans (k (a + b) (by omega)))
theorem tot_ev {α : Type} {g : Nat → Option α} {r : α} (h : Ev g r) : tot g = some r := by
  unfold tot
  rw [dif_pos ⟨r, h⟩]
  exact congrArg some (Ev.uniq (Exists.choose_spec (⟨r, h⟩ : ∃ r, Ev g r)) h)
theorem tot_ex {α : Type} {g : Nat → Option α} {r : α} (h : tot g = some r) : ∃ k, g k = some r := by
  unfold tot at h
  split at h
  · rename_i hx
    have := hx.choose_spec
    rw [Option.some.inj h] at this
    exact this.ex
  · cases h
noncomputable def spec_l1Rooms.f (l0 : List ByteArray) : Option (Int) := tot fun k => L2.spec_l1Rooms.f k l0
theorem spec_l1Rooms.calls (A0 : Option Addr) (c0 : Nat) (l0 : List ByteArray) (r : Int) (w : World) (hr0 : Kd.C Kd.string w A0 l0.length l0) (hc0 : l0.length ≤ c0) (h : spec_l1Rooms.f l0 = some r) :
    Calls Try.prog 65 #[.slice A0 l0.length c0] w fun e w' => e = .returned (.int .i64 r) ∧ Below w.heap.size w w' := by
  obtain ⟨k, hk⟩ := tot_ex h
  exact L2.spec_l1Rooms.calls k A0 c0 l0 r w hr0 hc0 hk
noncomputable def spec_l1Cells.f (l0 : List ByteArray) (a1 : Int) : Option (Int) := tot fun k => L2.spec_l1Cells.f k l0 a1
theorem spec_l1Cells.calls (A0 : Option Addr) (c0 : Nat) (l0 : List ByteArray) (a1 : Int) (r : Int) (w : World) (hr0 : Kd.C Kd.string w A0 l0.length l0) (hc0 : l0.length ≤ c0) (h : spec_l1Cells.f l0 a1 = some r) :
    Calls Try.prog 141 #[.slice A0 l0.length c0, .int .i64 a1] w fun e w' => e = .returned (.int .i64 r) ∧ Below w.heap.size w w' := by
  obtain ⟨k, hk⟩ := tot_ex h
  exact (L2.spec_l1Cells.calls k A0 c0 l0 a1 r w hr0 hc0 hk).mono fun e w' ⟨he, n, hw⟩ => ⟨he, by rw [hw]; exact pw_below_drewN (Below.refl _ _) _⟩
noncomputable def spec_l1Room.f (l0 : List ByteArray) (a1 : Int) : Option (Int × Int × Int × Int) := tot fun k => L2.spec_l1Room.f k l0 a1
theorem spec_l1Room.calls (A0 : Option Addr) (c0 : Nat) (l0 : List ByteArray) (a1 : Int) (r1 : Int) (r2 : Int) (r3 : Int) (r4 : Int) (w : World) (hr0 : Kd.C Kd.string w A0 l0.length l0) (hc0 : l0.length ≤ c0) (h : spec_l1Room.f l0 a1 = some (r1, r2, r3, r4)) :
    Calls Try.prog 140 #[.slice A0 l0.length c0, .int .i64 a1] w fun e w' => e = .returned (.tuple #[.int .i64 r1, .int .i64 r2, .int .i64 r3, .int .i64 r4]) ∧ Below w.heap.size w w' := by
  obtain ⟨k, hk⟩ := tot_ex h
  exact L2.spec_l1Room.calls k A0 c0 l0 a1 r1 r2 r3 r4 w hr0 hc0 hk
end Go.Proofs.Ytbpppchkgjcahaa
end
section
namespace Go.Proofs.Ytbpppchkgjcahaa
open Go.RowKit Go.Shelf Go.Proofs.YtbpppchkgjcahaaW.PrintWords Go.Proofs.YtbpppchkgjcahaaW.PrintMore
set_option linter.unusedVariables false
noncomputable def spec_l1Trans.f (l0 : List ByteArray) : Option (List ByteArray) := tot fun k => L3.spec_l1Trans.f k l0
theorem spec_l1Trans.calls (A0 : Option Addr) (c0 : Nat) (l0 : List ByteArray) (r : List ByteArray) (w : World) (hr0 : Kd.C Kd.string w A0 l0.length l0) (hc0 : l0.length ≤ c0) (h : spec_l1Trans.f l0 = some r) :
    Calls Try.prog 149 #[.slice A0 l0.length c0] w fun e w' => ∃ v : Value, e = .returned v ∧ Kd.R Kd.string 9 w' w.heap.size (fun _ => True) v r ∧ Below w.heap.size w w' := by
  obtain ⟨k, hk⟩ := tot_ex h
  exact L3.spec_l1Trans.calls k A0 c0 l0 r w hr0 hc0 hk
end Go.Proofs.Ytbpppchkgjcahaa
end
