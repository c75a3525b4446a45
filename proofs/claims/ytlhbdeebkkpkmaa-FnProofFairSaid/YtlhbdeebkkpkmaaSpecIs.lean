/- The reference's ProofLooseIs and ProofFairIs: contracts. Conditions: texts and lists of at most 1000000000 bytes and numbers. -/
import Derived.Test.YtlhbdeebkkpkmaaLooseIs
namespace Go.Proofs.Ytlhbdeebkkpkmaa
open Go.RowKit Go.Shelf Go.Proofs.YtlhbdeebkkpkmaaW.PrintWords Go.Proofs.YtlhbdeebkkpkmaaW.PrintMore
attribute [local go_sem] max2_int min2_int max_two min_two max_three min_three max_four min_four
set_option linter.unusedVariables false

theorem dec6 (A B C D E F : Prop) [Decidable A] [Decidable B] [Decidable C] [Decidable D] [Decidable E] [Decidable F] : decide (A ∧ B ∧ C ∨ D ∧ E ∧ F) = (decide A && (decide B && decide C) || decide D && (decide E && decide F)) := by
  simp only [Bool.decide_or, Bool.decide_and]
theorem in_yes (a b c : Int) (h : b ≤ a ∧ a ≤ c) (w : World) : Calls Try.prog 50 #[.int .i64 a, .int .i64 b, .int .i64 c] w fun e w' => e = .returned (.bool true) ∧ ∃ n, w' = w.drewN n :=
  (L1.spec_l6In.calls a b c true w (by unfold L1.spec_l6In.f; rw [if_pos h.1, decide_eq_true h.2])).mono fun e w' ⟨he, hd⟩ => ⟨he, hd.out⟩
theorem in_no (a b c : Int) (h : ¬ (b ≤ a ∧ a ≤ c)) (w : World) : Calls Try.prog 50 #[.int .i64 a, .int .i64 b, .int .i64 c] w fun e w' => e = .returned (.bool false) ∧ ∃ n, w' = w.drewN n :=
  (L1.spec_l6In.calls a b c false w (by
    unfold L1.spec_l6In.f
    by_cases c1 : b ≤ a
    · rw [if_pos c1, decide_eq_false (fun h2 => h ⟨c1, h2⟩)]
    · rw [if_neg c1])).mono fun e w' ⟨he, hd⟩ => ⟨he, hd.out⟩

set_option maxRecDepth 100000 in
set_option maxHeartbeats 4000000 in
theorem four_any (A : Option Addr) (cp : Nat) (p : List Int) (a b c d : Int) (hp : p.length ≤ 1000000000) (w : World) (hr : Kd.C (Kd.int .i64) w A p.length p) (hc : p.length ≤ cp) :
    Calls Try.prog 32 #[.slice A p.length cp, .int .i64 a, .int .i64 b, .int .i64 c, .int .i64 d] w fun e w' => e = .returned (.bool (fourB p a b c d)) ∧ ∃ n, w' = w.drewN n := by
  obtain ⟨r, hres⟩ : ∃ r, fourB p a b c d = r := ⟨_, rfl⟩
  rw [hres]
  by_cases hg : a < b ∧ b < c ∧ c < d ∧ 0 ≤ a ∧ d < p.length
  case neg =>
    have hf : r = false := by rw [← hres]; unfold fourB; rw [decide_eq_false hg]; rfl
    subst hf
    clear hres hr
    have HG := Aside0.mk hg
    clear hg
    go_enter Try.func32, Try.ntmps32
    go_wp2
    all_goals first
      | (go_ret; exact ⟨rfl, 0, rfl⟩)
      | (exfalso; have := HG.out; omega)
  case pos =>
    obtain ⟨g1, g2, g3, g4, g5⟩ := hg
    have hf : r = tightB (rd p a) (rd p b) (rd p c) (rd p d) := by rw [← hres]; unfold fourB; rw [decide_eq_true ⟨g1, g2, g3, g4, g5⟩, Bool.true_and]
    have HF := Aside0.mk hf
    clear hres hf
    obtain ⟨ad, hA, f0⟩ := Kd.at_int hr a (by omega) (by omega)
    obtain ⟨ad1, e1, f1⟩ := Kd.at_int hr b (by omega) (by omega)
    obtain ⟨ad2, e2, f2⟩ := Kd.at_int hr c (by omega) (by omega)
    obtain ⟨ad3, e3, f3⟩ := Kd.at_int hr d (by omega) (by omega)
    subst hA
    obtain rfl : ad = ad1 := by injection e1
    obtain rfl : ad = ad2 := by injection e2
    obtain rfl : ad = ad3 := by injection e3
    have h1 : 0 ≤ b := by omega
    have h2 : 0 ≤ c := by omega
    have h3 : 0 ≤ d := by omega
    have h4 : a < (p.length : Int) := by omega
    have h5 : b < (p.length : Int) := by omega
    have h6 : c < (p.length : Int) := by omega
    clear e1 e2 e3 hr
    have hq : r = (decide (rd p c < rd p a) && (decide (rd p a < rd p d) && decide (rd p d < rd p b)) || decide (rd p b < rd p d) && (decide (rd p d < rd p a) && decide (rd p a < rd p c))) := by rw [HF.out]; unfold tightB; exact dec6 _ _ _ _ _ _
    clear HF
    go_enter Try.func32, Try.ntmps32
    go_wp2
    refine wp_region_quiet_lit (by kernel_rfl) (by kernel_rfl) ?_
    simp only [List.append_eq, List.cons_append, List.nil_append]
    repeat (go_big_quiet_step (fail))
    cases b1 : decide (rd p c < rd p a)
    all_goals repeat (go_big_quiet_step (fail))
    case true =>
      cases b2 : decide (rd p a < rd p d)
      all_goals repeat (go_big_quiet_step (fail))
      case true =>
        cases b3 : decide (rd p d < rd p b)
        all_goals repeat (go_big_quiet_step (fail))
        all_goals first
          | (refine wpQuiet_nil ?_; intro _ hw'; obtain ⟨nq, hw''⟩ := hw'; subst hw''; go_wp2; go_ret; refine ⟨ret_bool ?_, _, by first | rfl | exact World.drewN_drewN ..⟩; rw [hq]; simp [*])
          | (cases b4 : decide (rd p b < rd p d)
             all_goals repeat (go_big_quiet_step (fail))
             all_goals first
               | (refine wpQuiet_nil ?_; intro _ hw'; obtain ⟨nq, hw''⟩ := hw'; subst hw''; go_wp2; go_ret; refine ⟨ret_bool ?_, _, by first | rfl | exact World.drewN_drewN ..⟩; rw [hq]; simp [*])
               | (cases b5 : decide (rd p d < rd p a)
                  all_goals repeat (go_big_quiet_step (fail))
                  all_goals (refine wpQuiet_nil ?_; intro _ hw'; obtain ⟨nq, hw''⟩ := hw'; subst hw''; go_wp2; go_ret; refine ⟨ret_bool ?_, _, by first | rfl | exact World.drewN_drewN ..⟩; rw [hq]; simp [*])))
      case false =>
        cases b4 : decide (rd p b < rd p d)
        all_goals repeat (go_big_quiet_step (fail))
        all_goals first
          | (refine wpQuiet_nil ?_; intro _ hw'; obtain ⟨nq, hw''⟩ := hw'; subst hw''; go_wp2; go_ret; refine ⟨ret_bool ?_, _, by first | rfl | exact World.drewN_drewN ..⟩; rw [hq]; simp [*])
          | (cases b5 : decide (rd p d < rd p a)
             all_goals repeat (go_big_quiet_step (fail))
             all_goals (refine wpQuiet_nil ?_; intro _ hw'; obtain ⟨nq, hw''⟩ := hw'; subst hw''; go_wp2; go_ret; refine ⟨ret_bool ?_, _, by first | rfl | exact World.drewN_drewN ..⟩; rw [hq]; simp [*]))
    case false =>
      cases b4 : decide (rd p b < rd p d)
      all_goals repeat (go_big_quiet_step (fail))
      all_goals first
        | (refine wpQuiet_nil ?_; intro _ hw'; obtain ⟨nq, hw''⟩ := hw'; subst hw''; go_wp2; go_ret; refine ⟨ret_bool ?_, _, by first | rfl | exact World.drewN_drewN ..⟩; rw [hq]; simp [*])
        | (cases b5 : decide (rd p d < rd p a)
           all_goals repeat (go_big_quiet_step (fail))
           all_goals (refine wpQuiet_nil ?_; intro _ hw'; obtain ⟨nq, hw''⟩ := hw'; subst hw''; go_wp2; go_ret; refine ⟨ret_bool ?_, _, by first | rfl | exact World.drewN_drewN ..⟩; rw [hq]; simp [*]))

def breaksB (p : List Int) (i j k : Int) : Bool := decide (0 ≤ i ∧ i < j ∧ j + 1 < k ∧ k < p.length) && unfairB (rd p i) (rd p j) (rd p (j + 1)) (rd p k)

set_option maxRecDepth 100000 in
set_option maxHeartbeats 4000000 in
theorem breaks_any (A : Option Addr) (cp : Nat) (p : List Int) (i j k : Int) (hi : -1000000000000 ≤ i ∧ i ≤ 1000000000000) (hj : -1000000000000 ≤ j ∧ j ≤ 1000000000000) (hk : -1000000000000 ≤ k ∧ k ≤ 1000000000000) (hp : p.length ≤ 1000000000) (w : World) (hr : Kd.C (Kd.int .i64) w A p.length p) (hc : p.length ≤ cp) :
    Calls Try.prog 35 #[.slice A p.length cp, .int .i64 i, .int .i64 j, .int .i64 k] w fun e w' => e = .returned (.bool (breaksB p i j k)) ∧ ∃ n, w' = w.drewN n := by
  obtain ⟨r, hres⟩ : ∃ r, breaksB p i j k = r := ⟨_, rfl⟩
  rw [hres]
  have l1 := hi.1
  have l2 := hi.2
  have l3 := hj.1
  have l4 := hj.2
  have l5 := hk.1
  have l6 := hk.2
  clear hi hj hk
  by_cases gj : 1 ≤ j ∧ j ≤ (p.length : Int) - 3
  case neg =>
    have hf : r = false := by rw [← hres]; unfold breaksB; rw [decide_eq_false (by omega)]; rfl
    subst hf
    clear hres hr
    have HG := Aside0.mk gj
    clear gj
    go_enter Try.func35, Try.ntmps35
    go_wp2_with (go_at_call 50; refine (in_no _ _ _ HG.out _).mono ?_; rintro e w1 ⟨rfl, n1, rfl⟩)
    go_ret
    exact ⟨rfl, n1, rfl⟩
  case pos =>
  by_cases gi : 0 ≤ i ∧ i ≤ j - 1
  case neg =>
    have hf : r = false := by rw [← hres]; unfold breaksB; rw [decide_eq_false (by omega)]; rfl
    subst hf
    clear hres hr
    have HG := Aside0.mk gi
    have HJ := Aside0.mk gj
    clear gi
    go_enter Try.func35, Try.ntmps35
    go_wp2_with fail
    refine (in_yes _ _ _ HJ.out _).mono ?_; rintro e w1 ⟨rfl, n1, rfl⟩
    go_wp2_with fail
    refine (in_no _ _ _ HG.out _).mono ?_; rintro e w1 ⟨rfl, n2, rfl⟩
    go_wp2
    go_ret
    exact ⟨rfl, _, rfl⟩
  case pos =>
  by_cases gk : j + 2 ≤ k ∧ k ≤ (p.length : Int) - 1
  case neg =>
    have hf : r = false := by rw [← hres]; unfold breaksB; rw [decide_eq_false (by omega)]; rfl
    subst hf
    clear hres hr
    have HG := Aside0.mk gk
    have HJ := Aside0.mk gj
    have HI := Aside0.mk gi
    clear gk
    go_enter Try.func35, Try.ntmps35
    go_wp2_with fail
    refine (in_yes _ _ _ HJ.out _).mono ?_; rintro e w1 ⟨rfl, n1, rfl⟩
    go_wp2_with fail
    refine (in_yes _ _ _ HI.out _).mono ?_; rintro e w1 ⟨rfl, n2, rfl⟩
    go_wp2_with fail
    refine (in_no _ _ _ HG.out _).mono ?_; rintro e w1 ⟨rfl, n3, rfl⟩
    go_wp2
    go_ret
    exact ⟨rfl, _, rfl⟩
  case pos =>
    have hf : r = unfairB (rd p i) (rd p j) (rd p (j + 1)) (rd p k) := by rw [← hres]; unfold breaksB; rw [decide_eq_true (by omega), Bool.true_and]
    have HF := Aside0.mk hf
    clear hres hf
    obtain ⟨ad, hA, f0⟩ := Kd.at_int hr i (by omega) (by omega)
    obtain ⟨ad1, e1, f1⟩ := Kd.at_int hr j (by omega) (by omega)
    obtain ⟨ad2, e2, f2⟩ := Kd.at_int hr (j + 1) (by omega) (by omega)
    obtain ⟨ad3, e3, f3⟩ := Kd.at_int hr k (by omega) (by omega)
    subst hA
    obtain rfl : ad = ad1 := by injection e1
    obtain rfl : ad = ad2 := by injection e2
    obtain rfl : ad = ad3 := by injection e3
    have h0 : 0 ≤ i := gi.1
    have h1 : 0 ≤ j := by omega
    have h2 : 0 ≤ j + 1 := by omega
    have h3 : 0 ≤ k := by omega
    have h4 : i < (p.length : Int) := by omega
    have h5 : j < (p.length : Int) := by omega
    have h6 : j + 1 < (p.length : Int) := by omega
    have h7 : k < (p.length : Int) := by omega
    have HG := Aside0.mk gk
    have HJ := Aside0.mk gj
    have HI := Aside0.mk gi
    clear e1 e2 e3 hr gk gj gi
    have hq : r = (decide (rd p (j + 1) < rd p i) && (decide (rd p i < rd p k) && decide (rd p k < rd p j)) || decide (rd p j < rd p k) && (decide (rd p k < rd p i) && decide (rd p i < rd p (j + 1)))) := by rw [HF.out]; unfold unfairB; exact dec6 _ _ _ _ _ _
    clear HF
    go_enter Try.func35, Try.ntmps35
    go_wp2_with fail
    refine (in_yes _ _ _ HJ.out _).mono ?_; rintro e w1 ⟨rfl, n1, rfl⟩
    go_wp2_with fail
    refine (in_yes _ _ _ HI.out _).mono ?_; rintro e w1 ⟨rfl, n2, rfl⟩
    go_wp2_with fail
    refine (in_yes _ _ _ HG.out _).mono ?_; rintro e w1 ⟨rfl, n3, rfl⟩
    go_wp2
    refine wp_region_quiet_lit (by kernel_rfl) (by kernel_rfl) ?_
    simp only [List.append_eq, List.cons_append, List.nil_append]
    repeat (go_big_quiet_step (fail))
    cases b1 : decide (rd p (j + 1) < rd p i)
    all_goals repeat (go_big_quiet_step (fail))
    case true =>
      cases b2 : decide (rd p i < rd p k)
      all_goals repeat (go_big_quiet_step (fail))
      case true =>
        cases b3 : decide (rd p k < rd p j)
        all_goals repeat (go_big_quiet_step (fail))
        all_goals first
          | (refine wpQuiet_nil ?_; intro _ hw'; obtain ⟨nq, hw''⟩ := hw'; subst hw''; go_wp2; go_ret; refine ⟨ret_bool ?_, _, by first | rfl | exact World.drewN_drewN ..⟩; rw [hq]; simp [*])
          | (cases b4 : decide (rd p j < rd p k)
             all_goals repeat (go_big_quiet_step (fail))
             all_goals first
               | (refine wpQuiet_nil ?_; intro _ hw'; obtain ⟨nq, hw''⟩ := hw'; subst hw''; go_wp2; go_ret; refine ⟨ret_bool ?_, _, by first | rfl | exact World.drewN_drewN ..⟩; rw [hq]; simp [*])
               | (cases b5 : decide (rd p k < rd p i)
                  all_goals repeat (go_big_quiet_step (fail))
                  all_goals (refine wpQuiet_nil ?_; intro _ hw'; obtain ⟨nq, hw''⟩ := hw'; subst hw''; go_wp2; go_ret; refine ⟨ret_bool ?_, _, by first | rfl | exact World.drewN_drewN ..⟩; rw [hq]; simp [*])))
      case false =>
        cases b4 : decide (rd p j < rd p k)
        all_goals repeat (go_big_quiet_step (fail))
        all_goals first
          | (refine wpQuiet_nil ?_; intro _ hw'; obtain ⟨nq, hw''⟩ := hw'; subst hw''; go_wp2; go_ret; refine ⟨ret_bool ?_, _, by first | rfl | exact World.drewN_drewN ..⟩; rw [hq]; simp [*])
          | (cases b5 : decide (rd p k < rd p i)
             all_goals repeat (go_big_quiet_step (fail))
             all_goals (refine wpQuiet_nil ?_; intro _ hw'; obtain ⟨nq, hw''⟩ := hw'; subst hw''; go_wp2; go_ret; refine ⟨ret_bool ?_, _, by first | rfl | exact World.drewN_drewN ..⟩; rw [hq]; simp [*]))
    case false =>
      cases b4 : decide (rd p j < rd p k)
      all_goals repeat (go_big_quiet_step (fail))
      all_goals first
        | (refine wpQuiet_nil ?_; intro _ hw'; obtain ⟨nq, hw''⟩ := hw'; subst hw''; go_wp2; go_ret; refine ⟨ret_bool ?_, _, by first | rfl | exact World.drewN_drewN ..⟩; rw [hq]; simp [*])
        | (cases b5 : decide (rd p k < rd p i)
           all_goals repeat (go_big_quiet_step (fail))
           all_goals (refine wpQuiet_nil ?_; intro _ hw'; obtain ⟨nq, hw''⟩ := hw'; subst hw''; go_wp2; go_ret; refine ⟨ret_bool ?_, _, by first | rfl | exact World.drewN_drewN ..⟩; rw [hq]; simp [*]))
end Go.Proofs.Ytlhbdeebkkpkmaa
