/- The reference's NearWay, NearFar, NearMany: as the program's. -/
import Derived.Test.YtbpppchkgjcahaaKBSpecSteps
namespace Go.Proofs.Ytbpppchkgjcahaa
open Go.RowKit Go.Shelf Go.Proofs.YtbpppchkgjcahaaW.PrintWords Go.Proofs.YtbpppchkgjcahaaW.PrintMore
set_option linter.unusedVariables false
set_option linter.unusedSimpArgs false
theorem given12 (p : List ByteArray) (hp : SmallP p) (a : Int) : L12.spec_l1Given.f p a = some (planG p && inR p a) := by
  have h1 : spec_PlanIn.f p = some (planG p) := by unfold spec_PlanIn.f; rw [if_pos hp]
  unfold L12.spec_l1Given.f
  rw [h1, Option.bind_some]
  cases hpl : planG p with
  | false => rw [if_neg (by simp)]; rfl
  | true =>
    have hn := roomN_pos hpl
    rw [if_pos rfl, rooms_some hpl, Option.bind_some, show wrap64 ((roomN p : Int) - 1) = (roomN p : Int) - 1 by rw [wrap64]; omega]
    unfold L12.spec_l6In.f inR
    by_cases h : a ≥ 0
    · rw [if_pos h, Option.bind_some, decide_eq_true (show 0 ≤ a from h), Bool.true_and, Bool.true_and]
      congr 1
      rw [Bool.eq_iff_iff, decide_eq_true_iff, decide_eq_true_iff]; omega
    · rw [if_neg h, Option.bind_some, decide_eq_false (show ¬ 0 ≤ a from h)]; rfl
set_option maxHeartbeats 8000000 in
theorem specNearWay_any (A : Option Addr) (cap : Nat) (p : List ByteArray) (hp : SmallP p) (a b : Int) (w : World) (hr0 : Kd.C Kd.string w A p.length p) (hc0 : p.length ≤ cap) :
    Calls Try.prog 22 #[.slice A p.length cap, .int .i64 a, .int .i64 b] w fun e w' => e = .returned (.tuple #[.int .i64 (wayP p a b).1, .bool (wayP p a b).2]) ∧ Below w.heap.size w w' := by
  have HGI := Aside0.mk (fun (x : Int) W (hW : Below w.heap.size w W) => L12.spec_l1Given.calls A cap p x (planG p && inR p x) W (Kd.C_below hr0 hW) hc0 (given12 p hp x))
  have HST := Aside0.mk (fun (hpl : planG p = true) (x : Nat) (hx : x < roomN p) W (hW : Below w.heap.size w W) => l4Steps_any A cap p hpl x hx W (Kd.C_below hr0 hW) hc0)
  clear hr0
  go_enter Try.func22, Try.ntmps22
  go_wp2_with fail
  refine (HGI.out a w (Below.refl _ _)).mono ?_
  rintro e w1 ⟨rfl, hb1⟩
  have HB1 := Aside0.mk hb1
  clear hb1
  cases ha : (planG p && inR p a) with
  | false =>
    have HV : Aside0 (wayP p a b = (0, false)) := ⟨by unfold wayP; rw [ha]; rfl⟩
    clear ha
    go_wp2_with fail
    go_ret2
    exact ⟨by rw [HV.out]; rfl, HB1.out⟩
  | true =>
    have HA := Aside0.mk ha
    clear ha
    go_wp2_with fail
    refine (HGI.out b w1 HB1.out).mono ?_
    rintro e w2 ⟨rfl, hb2⟩
    have HB2 := Aside0.mk (HB1.out.trans (hb2.mono HB1.out.size))
    clear hb2
    cases hb : (planG p && inR p b) with
    | false =>
      have HV : Aside0 (wayP p a b = (0, false)) := ⟨by
        have h1 := (Bool.and_eq_true_iff.1 HA.out).1
        rw [h1, Bool.true_and] at hb
        unfold wayP
        rw [HA.out, hb]; rfl⟩
      clear hb
      go_wp2_with fail
      go_ret2
      exact ⟨by rw [HV.out]; rfl, HB2.out⟩
    | true =>
      obtain ⟨hpl, ha⟩ := Bool.and_eq_true_iff.1 HA.out
      have hbb := (Bool.and_eq_true_iff.1 hb).2
      have HV : Aside0 (wayP p a b = (dAt (stepsL (nbP p) (roomN p) a.toNat) b.toNat, true)) := ⟨by unfold wayP; rw [HA.out, hbb]; rfl⟩
      obtain ⟨x, rfl, hx⟩ := inR_iff.1 ha
      obtain ⟨y, rfl, hy⟩ := inR_iff.1 hbb
      rw [Int.toNat_natCast, Int.toNat_natCast] at HV
      have HS2 := Aside0.mk (HST.out hpl x hx w2 HB2.out)
      obtain ⟨n, hnn⟩ : ∃ n, roomN p = n := ⟨_, rfl⟩
      rw [hnn] at HS2 HV hx hy
      have y0 : (0 : Int) ≤ (y : Int) := by omega
      have yn : (y : Int) < (n : Int) := by omega
      clear hpl ha hbb hb hnn
      go_wp2_with fail
      refine HS2.out.mono ?_
      rintro e w3 ⟨go, c, rfl, hc, hN, hb3⟩
      have HB3 := Aside0.mk (HB2.out.trans (hb3.mono HB2.out.size))
      obtain ⟨s1, s2⟩ := hN.at hy
      obtain ⟨z, hz⟩ : ∃ z, dAt (stepsL (nbP p) n x) y = z := ⟨_, rfl⟩
      rw [hz] at s1 HV
      have hc2 : (n : Int) ≤ (c : Int) := by omega
      clear hb3 hN hz
      go_wp2_with fail
      go_ret2
      exact ⟨by rw [HV.out]; rfl, HB3.out⟩
end Go.Proofs.Ytbpppchkgjcahaa
