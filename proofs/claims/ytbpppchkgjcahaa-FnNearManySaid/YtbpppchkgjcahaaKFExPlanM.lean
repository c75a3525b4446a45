/- Texts of this claim's, joined by a program: FExPlan, FDone. -/
import Derived.Test.YtbpppchkgjcahaaKFSpecIn
section
namespace Go.Proofs.Ytbpppchkgjcahaa
open Go.RowKit Go.Shelf Go.Proofs.YtbpppchkgjcahaaW.PrintWords Go.Proofs.YtbpppchkgjcahaaW.PrintMore
set_option linter.unusedVariables false
def SmallP (l0 : List ByteArray) : Prop := l0.length ≤ 2000000 ∧ ∀ s ∈ l0, s.size ≤ 2000000
instance (l0 : List ByteArray) : Decidable (SmallP l0) := inferInstanceAs (Decidable (_ ∧ _))
def spec_PlanIn.f (l0 : List ByteArray) : Option Bool := if SmallP l0 then some (planG l0) else none
theorem spec_PlanIn.calls (A0 : Option Addr) (c0 : Nat) (l0 : List ByteArray) (r : Bool) (w : World) (hr0 : Kd.C Kd.string w A0 l0.length l0) (hc0 : l0.length ≤ c0) (h : spec_PlanIn.f l0 = some r) :
    Calls Try.prog 83 #[.slice A0 l0.length c0] w fun e w' => e = .returned (.bool r) ∧ Below w.heap.size w w' := by
  unfold spec_PlanIn.f at h
  split at h
  · rename_i hb
    injection h with h
    obtain ⟨k, hk⟩ := planIn_f l0 hb.1 hb.2
    rw [h] at hk
    exact L2.spec_PlanIn.calls k A0 c0 l0 r w hr0 hc0 hk
  · cases h
end Go.Proofs.Ytbpppchkgjcahaa
end
section
namespace Go.Proofs.Ytbpppchkgjcahaa
open Go.RowKit Go.Shelf Go.Proofs.YtbpppchkgjcahaaW.PrintWords Go.Proofs.YtbpppchkgjcahaaW.PrintMore
set_option linter.unusedVariables false
set_option linter.unusedSimpArgs false
def namedT (p : List ByteArray) : List ByteArray := (numsOf (rowsOf p)).map rowText
def doneB (p : List ByteArray) : Bool := (lettersB p && shapeB (rowsOf p)) && planG (namedT p)
theorem namedT_small {p : List ByteArray} (hs : shapeB (rowsOf p) = true) : SmallP (namedT p) := by
  obtain ⟨h1, h2⟩ := nums_small hs
  unfold namedT
  refine ⟨by rw [List.length_map]; omega, fun s h => ?_⟩
  obtain ⟨row, hr, rfl⟩ := List.mem_map.1 h
  have := (h2 row hr).1
  unfold rowText rowBytes
  show (List.map letOf row).toArray.size ≤ _
  rw [List.size_toArray, List.length_map]; omega
theorem namedT_len (p : List ByteArray) : (namedT p).length = p.length := by
  unfold namedT numsOf rowsOf
  simp
theorem none_any (W : World) : Calls Try.prog 102 #[] W fun e w' => (∃ A' n' c', e = .returned (.tuple #[.slice A' n' c', .bool false])) ∧ Below W.heap.size W w' := by
  go_enter Try.func102, Try.ntmps102
  go_wp2
  go_ret2
  exact ⟨⟨_, _, _, rfl⟩, (Below.refl _ _).alloc (Nat.le_refl _) _⟩
set_option maxRecDepth 100000 in
set_option maxHeartbeats 4000000 in
theorem done_any (A : Option Addr) (cap : Nat) (p : List ByteArray) (hp : SmallP p) (w : World) (hr0 : Kd.C Kd.string w A p.length p) (hc0 : p.length ≤ cap) :
    Calls Try.prog 162 #[.slice A p.length cap] w fun e w' => (∃ A' n' c', e = .returned (.tuple #[.slice A' n' c', .bool (doneB p)]) ∧ (doneB p = true → n' = p.length ∧ w'.ownsRow w.heap.size 9 1 (.slice A' n' c') n' (encs Value.string (namedT p)))) ∧ Below w.heap.size w w' := by
  obtain ⟨kg, hkg⟩ := grid_f p hp.1 hp.2
  rw [grid_is] at hkg
  have HG : Aside0 (∀ W, Below w.heap.size w W → Calls Try.prog 137 #[.slice A p.length cap] W fun e w' => e = .returned (.bool (lettersB p && shapeB (rowsOf p))) ∧ Below W.heap.size W w') := ⟨fun W hW => (L2.spec_l1Grid.calls kg A cap p _ W (Kd.C_below hr0 hW) hc0 hkg).mono fun e w' ⟨he, n, hw⟩ => ⟨he, by rw [hw]; exact pw_below_drewN (Below.refl _ _) _⟩⟩
  have HNO := Aside0.mk none_any
  by_cases hg : (lettersB p && shapeB (rowsOf p)) = true
  · have hg2 := hg
    rw [Bool.and_eq_true] at hg2
    obtain ⟨kn, hkn⟩ := names_f p hg
    have hkn : L2.spec_l1Names.f kn p = some (namedT p) := hkn
    have HN := Aside0.mk (fun W (hW : Below w.heap.size w W) => L2.spec_l1Names.calls kn A cap p _ W (Kd.C_below hr0 hW) hc0 hkn)
    have hsm := namedT_small hg2.2
    have HP := Aside0.mk (fun A' c' W (hr : Kd.C Kd.string W A' (namedT p).length (namedT p)) hc' => spec_PlanIn.calls A' c' (namedT p) (planG (namedT p)) W hr hc' (by unfold spec_PlanIn.f; rw [if_pos hsm]))
    have HDB : Aside0 (doneB p = planG (namedT p)) := ⟨by unfold doneB; rw [hg, Bool.true_and]⟩
    rw [hg] at HG
    have hln := namedT_len p
    obtain ⟨b, hb⟩ : ∃ b, planG (namedT p) = b := ⟨_, rfl⟩
    rw [hb] at HP HDB
    have HLN := Aside0.mk hln
    clear hr0 hkg hkn hg hg2 hsm hb hln
    cases b with
    | true =>
      go_enter Try.func162, Try.ntmps162
      go_wp2_with fail
      refine (HG.out _ (Below.refl _ _)).mono ?_
      rintro e w1 ⟨rfl, hb1⟩
      have HB1 := Aside0.mk hb1
      clear hb1
      go_wp2_with fail
      refine (HN.out _ HB1.out).mono ?_
      rintro e w2 ⟨v2, rfl, hR2, hb2⟩
      obtain ⟨A2, c2, rfl, hl2, hC2⟩ := Kd.R_reads hR2
      have HB2 := Aside0.mk (HB1.out.trans (hb2.mono HB1.out.size))
      have HC2 := Aside0.mk hC2
      clear hb2 hR2 hC2
      go_wp2_with fail
      refine (HP.out _ _ _ HC2.out hl2).mono ?_
      rintro e w3 ⟨rfl, hb3⟩
      have HB3 := Aside0.mk (HB2.out.trans (hb3.mono HB2.out.size))
      clear hb3
      go_wp2_with fail
      refine (HN.out _ HB3.out).mono ?_
      rintro e w4 ⟨v4, rfl, hR4, hb4⟩
      have HB4 := Aside0.mk (HB3.out.trans (hb4.mono HB3.out.size))
      have HO4 := Aside0.mk (own_weaken (Kd.own_of_R (enc := Value.string) (h1 := fun _ => rfl) hR4) HB3.out.size)
      obtain ⟨A4, c4, rfl⟩ := own_slice HO4.out
      clear hb4 hR4
      go_wp2_with fail
      go_ret2
      exact ⟨⟨_, _, _, by rw [HDB.out]; rfl, fun _ => ⟨HLN.out, HO4.out⟩⟩, HB4.out⟩
    | false =>
      go_enter Try.func162, Try.ntmps162
      go_wp2_with fail
      refine (HG.out _ (Below.refl _ _)).mono ?_
      rintro e w1 ⟨rfl, hb1⟩
      have HB1 := Aside0.mk hb1
      clear hb1
      go_wp2_with fail
      refine (HN.out _ HB1.out).mono ?_
      rintro e w2 ⟨v2, rfl, hR2, hb2⟩
      obtain ⟨A2, c2, rfl, hl2, hC2⟩ := Kd.R_reads hR2
      have HB2 := Aside0.mk (HB1.out.trans (hb2.mono HB1.out.size))
      have HC2 := Aside0.mk hC2
      clear hb2 hR2 hC2
      go_wp2_with fail
      refine (HP.out _ _ _ HC2.out hl2).mono ?_
      rintro e w3 ⟨rfl, hb3⟩
      have HB3 := Aside0.mk (HB2.out.trans (hb3.mono HB2.out.size))
      clear hb3
      go_wp2_with fail
      refine (HNO.out _).mono ?_
      rintro e w4 ⟨⟨A4, n4, c4, rfl⟩, hb4⟩
      have HB4 := Aside0.mk (HB3.out.trans (hb4.mono HB3.out.size))
      clear hb4
      go_wp2_with fail
      go_ret2
      exact ⟨⟨_, _, _, by rw [HDB.out]; rfl, fun h => by rw [HDB.out] at h; cases h⟩, HB4.out⟩
  · have hgf : (lettersB p && shapeB (rowsOf p)) = false := by simpa using hg
    have HDB : Aside0 (doneB p = false) := ⟨by unfold doneB; rw [hgf, Bool.false_and]⟩
    rw [hgf] at HG
    clear hr0 hkg hg hgf
    go_enter Try.func162, Try.ntmps162
    go_wp2_with fail
    refine (HG.out _ (Below.refl _ _)).mono ?_
    rintro e w1 ⟨rfl, hb1⟩
    have HB1 := Aside0.mk hb1
    clear hb1
    go_wp2_with fail
    refine (HNO.out _).mono ?_
    rintro e w4 ⟨⟨A4, n4, c4, rfl⟩, hb4⟩
    have HB4 := Aside0.mk (HB1.out.trans (hb4.mono HB1.out.size))
    clear hb4
    go_wp2_with fail
    go_ret2
    exact ⟨⟨_, _, _, by rw [HDB.out]; rfl, fun h => by rw [HDB.out] at h; cases h⟩, HB4.out⟩
end Go.Proofs.Ytbpppchkgjcahaa
end
