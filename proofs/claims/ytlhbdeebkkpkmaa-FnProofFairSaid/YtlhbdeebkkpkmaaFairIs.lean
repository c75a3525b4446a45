/- ProofFairIs, the program's and the reference's: contracts with one and the same answer. Conditions: the text has at most 1000000000 bytes, the list at most 1000000000 numbers. -/
import Derived.Test.YtlhbdeebkkpkmaaSpecLooseIs
namespace Go.Proofs.Ytlhbdeebkkpkmaa
open Go.RowKit Go.Shelf Go.Proofs.YtlhbdeebkkpkmaaW.PrintWords Go.Proofs.YtlhbdeebkkpkmaaW.PrintMore
attribute [local go_sem] max2_int min2_int max_two min_two max_three min_three max_four min_four
set_option linter.unusedVariables false

def wBreak : ByteArray := ⟨#[98, 114, 101, 97, 107]⟩
def fairIsB (p : List Int) (s : ByteArray) : Bool := readOK s wBreak 3 && (permInB p && breaksB p (dgt s 5 0) (dgt s 5 1) (dgt s 5 2))
theorem digL_break (s : ByteArray) : digL s wBreak.size 3 = [dgt s 5 0, dgt s 5 1, dgt s 5 2] := rfl

set_option maxRecDepth 100000 in
set_option maxHeartbeats 4000000 in
theorem fairIs_any (A : Option Addr) (c : Nat) (p : List Int) (s : ByteArray) (hp : p.length ≤ 1000000000) (w : World) (hr : Kd.C (Kd.int .i64) w A p.length p) (hc : p.length ≤ c) :
    Calls Try.prog 17 #[.slice A p.length c, .string s] w fun e w' => e = .returned (.bool (fairIsB p s)) ∧ Below w.heap.size w w' := by
  obtain ⟨r, hres⟩ : ∃ r, fairIsB p s = r := ⟨_, rfl⟩
  rw [hres]
  have HP := places_any s wBreak 3 (by omega) w
  unfold wBreak at HP
  cases hok : readOK s wBreak 3 with
  | false =>
    have hf : r = false := by rw [← hres]; unfold fairIsB; rw [hok]; rfl
    subst hf
    clear hres
    have HK := Aside0.mk hok
    clear hok
    have HR := Aside0.mk hr
    clear hr
    go_enter Try.func17, Try.ntmps17
    go_wp2_with (go_at_call 33; refine HP.mono ?_; rintro e w1 ⟨v, rfl, hb1, _⟩; rw [show readOK s ⟨#[98, 114, 101, 97, 107]⟩ 3 = false from HK.out])
    go_ret
    exact ⟨rfl, hb1⟩
  | true =>
    have hd0 := dgt_range hok 0 (by omega)
    have hd1 := dgt_range hok 1 (by omega)
    have hd2 := dgt_range hok 2 (by omega)
    rw [show wBreak.size = 5 from rfl] at hd0 hd1 hd2
    have hf : r = (permInB p && breaksB p (dgt s 5 0) (dgt s 5 1) (dgt s 5 2)) := by rw [← hres]; unfold fairIsB; rw [hok]; rfl
    clear hres
    obtain ⟨d0, e0⟩ : ∃ d, dgt s 5 0 = d := ⟨_, rfl⟩
    obtain ⟨d1, e1⟩ : ∃ d, dgt s 5 1 = d := ⟨_, rfl⟩
    obtain ⟨d2, e2⟩ : ∃ d, dgt s 5 2 = d := ⟨_, rfl⟩
    rw [e0] at hd0 hf
    rw [e1] at hd1 hf
    rw [e2] at hd2 hf
    have HK := Aside0.mk hok
    have HF := Aside0.mk hf
    have HR := Aside0.mk hr
    have HL := Aside0.mk (show digL s wBreak.size 3 = [d0, d1, d2] by rw [digL_break, e0, e1, e2])
    clear hr hok hf e0 e1 e2
    go_enter Try.func17, Try.ntmps17
    go_wp2_with (go_at_call 33; refine HP.mono ?_; rintro e w1 ⟨v, rfl, hb1, hR⟩; rw [show readOK s ⟨#[98, 114, 101, 97, 107]⟩ 3 = true from HK.out]; replace hR := hR HK.out; rw [show digL s (ByteArray.mk #[98, 114, 101, 97, 107]).size 3 = [d0, d1, d2] from HL.out] at hR; obtain ⟨g, cv, rfl, hcv, hgb, hgl, hcells⟩ := R_cells hR (by simp); have f0 := hcells 0 d0 rfl; have f1 := hcells 1 d1 rfl; have f2 := hcells 2 d2 rfl; clear hcells hR; simp only [List.length_cons, List.length_nil, Nat.zero_add, Nat.reduceAdd] at hcv ⊢)
    refine (permIn_any A c p hp w1 (Kd.C_below HR.out hb1) hc).mono ?_
    rintro e w2 ⟨rfl, ⟨n2, rfl⟩⟩
    cases hpm : permInB p with
    | false =>
      have hf : r = false := by rw [HF.out, hpm]; rfl
      subst hf
      clear hpm
      go_wp2
      go_ret
      exact ⟨rfl, pw_below_drewN hb1 _⟩
    | true =>
      have HM := Aside0.mk hpm
      clear hpm
      go_wp2
      go_quiet (fail)
      go_wp2
      by_cases a1 : d0 < d1
      case neg =>
        have hf : r = false := by
          rw [HF.out, HM.out, Bool.true_and]; unfold breaksB; rw [decide_eq_false (by omega)]; rfl
        subst hf
        have b1 : decide (d0 < d1) = false := decide_eq_false a1
        clear a1
        go_quiet (fail)
        go_wp2
        go_ret
        exact ⟨rfl, by repeat (first | exact hb1 | apply pw_below_drewN)⟩
      case pos =>
      have b1 : decide (d0 < d1) = true := decide_eq_true a1
      by_cases a2 : d1 + 1 < d2
      case neg =>
        have hf : r = false := by
          rw [HF.out, HM.out, Bool.true_and]; unfold breaksB; rw [decide_eq_false (by omega)]; rfl
        subst hf
        have b2 : decide (d1 + 1 < d2) = false := decide_eq_false a2
        clear a1 a2
        go_quiet (fail)
        go_wp2
        go_ret
        exact ⟨rfl, by repeat (first | exact hb1 | apply pw_below_drewN)⟩
      case pos =>
      have b2 : decide (d1 + 1 < d2) = true := decide_eq_true a2
      by_cases a3 : d2 < (p.length : Int)
      case neg =>
        have hf : r = false := by
          rw [HF.out, HM.out, Bool.true_and]; unfold breaksB; rw [decide_eq_false (by omega)]; rfl
        subst hf
        have b3 : decide (d2 < (p.length : Int)) = false := decide_eq_false a3
        clear a1 a2 a3
        go_quiet (fail)
        go_wp2
        go_ret
        exact ⟨rfl, by repeat (first | exact hb1 | apply pw_below_drewN)⟩
      case pos =>
        have b3 : decide (d2 < (p.length : Int)) = true := decide_eq_true a3
        have hf : r = unfairB (rd p d0) (rd p d1) (rd p (d1 + 1)) (rd p d2) := by
          rw [HF.out, HM.out, Bool.true_and]; unfold breaksB; rw [decide_eq_true (by omega), Bool.true_and]
        have HF2 := Aside0.mk hf
        clear hf HF
        have hrw := Kd.C_below HR.out hb1
        obtain ⟨ad, hA, g0⟩ := Kd.at_int hrw d0 (by omega) (by omega)
        obtain ⟨ad1, e1, g1⟩ := Kd.at_int hrw d1 (by omega) (by omega)
        obtain ⟨ad2, e2, g2⟩ := Kd.at_int hrw (d1 + 1) (by omega) (by omega)
        obtain ⟨ad3, e3, g3⟩ := Kd.at_int hrw d2 (by omega) (by omega)
        subst hA
        obtain rfl : ad = ad1 := by injection e1
        obtain rfl : ad = ad2 := by injection e2
        obtain rfl : ad = ad3 := by injection e3
        have l0 : 0 ≤ d0 := hd0.1
        have l1 : 0 ≤ d1 := hd1.1
        have l2 : 0 ≤ d2 := hd2.1
        have l3 : 0 ≤ d1 + 1 := by omega
        have u0 : d0 < (p.length : Int) := by omega
        have u1 : d1 < (p.length : Int) := by omega
        have u2 : d2 < (p.length : Int) := by omega
        have u3 : d1 + 1 < (p.length : Int) := by omega
        have m1 : d1 ≤ 9 := by omega
        have hwr : IntKind.i64.wrap (d1 + 1) = d1 + 1 := by rw [IntKind.wrap_i64]; omega
        clear a1 a2 a3 e1 e2 e3 hrw hd0 hd1 hd2
        refine wp_still_tail 34 (by kernel_rfl) (by kernel_rfl) ?_
        simp only [List.take_succ_cons, List.take_zero, List.drop_succ_cons, List.drop_zero]
        repeat still_step
        refine wpStill_nil ?_
        go_wp2_with (go_at_call 36; refine (unfair_any _ _ _ _ _).mono ?_; rintro e w3 ⟨rfl, hb3⟩)
        go_ret
        refine ⟨ret_bool HF2.out.symm, ?_⟩
        exact below_step (by repeat (first | exact hb1 | apply pw_below_drewN)) hb3

set_option maxRecDepth 100000 in
set_option maxHeartbeats 4000000 in
theorem specFairIs_any (A : Option Addr) (c : Nat) (p : List Int) (s : ByteArray) (hp : p.length ≤ 1000000000) (hs : s.size ≤ 1000000000) (w : World) (hr : Kd.C (Kd.int .i64) w A p.length p) (hc : p.length ≤ c) :
    Calls Try.prog 16 #[.slice A p.length c, .string s] w fun e w' => e = .returned (.bool (fairIsB p s)) ∧ Below w.heap.size w w' := by
  obtain ⟨r, hres⟩ : ∃ r, fairIsB p s = r := ⟨_, rfl⟩
  rw [hres]
  have HP := l12Read_any s wBreak 3 (by decide) (by omega) hs w
  unfold wBreak at HP
  cases hok : readOK s wBreak 3 with
  | false =>
    have hf : r = false := by rw [← hres]; unfold fairIsB; rw [hok]; rfl
    subst hf
    clear hres
    have HK := Aside0.mk hok
    clear hok
    have HR := Aside0.mk hr
    clear hr
    go_enter Try.func16, Try.ntmps16
    go_wp2_with (go_at_call 31; refine HP.mono ?_; rintro e w1 ⟨v, rfl, hb1, _⟩; rw [show readOK s ⟨#[98, 114, 101, 97, 107]⟩ 3 = false from HK.out])
    go_quiet (fail)
    go_wp2
    go_ret
    exact ⟨rfl, pw_below_drewN hb1 _⟩
  | true =>
    have hd0 := dgt_range hok 0 (by omega)
    have hd1 := dgt_range hok 1 (by omega)
    have hd2 := dgt_range hok 2 (by omega)
    rw [show wBreak.size = 5 from rfl] at hd0 hd1 hd2
    have hf : r = (permInB p && breaksB p (dgt s 5 0) (dgt s 5 1) (dgt s 5 2)) := by rw [← hres]; unfold fairIsB; rw [hok]; rfl
    clear hres
    obtain ⟨d0, e0⟩ : ∃ d, dgt s 5 0 = d := ⟨_, rfl⟩
    obtain ⟨d1, e1⟩ : ∃ d, dgt s 5 1 = d := ⟨_, rfl⟩
    obtain ⟨d2, e2⟩ : ∃ d, dgt s 5 2 = d := ⟨_, rfl⟩
    rw [e0] at hd0 hf
    rw [e1] at hd1 hf
    rw [e2] at hd2 hf
    have HK := Aside0.mk hok
    have HR := Aside0.mk hr
    have HL := Aside0.mk (show digL s wBreak.size 3 = [d0, d1, d2] by rw [digL_break, e0, e1, e2])
    have HD := Aside0.mk (And.intro hd0 (And.intro hd1 hd2))
    clear hr hok e0 e1 e2 hd0 hd1 hd2
    have hx : permInB p = false ∧ r = false ∨ permInB p = true ∧ r = breaksB p d0 d1 d2 := by
      cases hpm : permInB p
      · exact .inl ⟨rfl, by rw [hf, hpm]; rfl⟩
      · exact .inr ⟨rfl, by rw [hf, hpm, Bool.true_and]⟩
    clear hf
    have HX := Aside0.mk hx
    clear hx
    go_enter Try.func16, Try.ntmps16
    go_wp2_with (go_at_call 31; refine HP.mono ?_; rintro e w1 ⟨v, rfl, hb1, hR⟩; rw [show readOK s ⟨#[98, 114, 101, 97, 107]⟩ 3 = true from HK.out]; replace hR := hR HK.out; rw [show digL s (ByteArray.mk #[98, 114, 101, 97, 107]).size 3 = [d0, d1, d2] from HL.out] at hR; obtain ⟨g, cv, rfl, hcv, hgb, hgl, hcells⟩ := R_cells hR (by simp); have f0 := hcells 0 d0 rfl; have f1 := hcells 1 d1 rfl; have f2 := hcells 2 d2 rfl; clear hcells hR; simp only [List.length_cons, List.length_nil, Nat.zero_add, Nat.reduceAdd] at hcv ⊢)
    rcases HX.out with ⟨hpm, hrr⟩ | ⟨hpm, hrr⟩
    · subst hrr
      go_quiet (first | (go_at_call 29; have := quiet_permIn (A := A) (c := c) hp hb1 (by assumption) HR.out rfl hc; rw [hpm] at this; exact this))
      go_wp2
      go_ret
      exact ⟨rfl, pw_below_drewN hb1 _⟩
    · have HQ := Aside0.mk hrr
      clear hrr
      go_quiet (first
        | (go_at_call 29; have := quiet_permIn (A := A) (c := c) hp hb1 (by assumption) HR.out rfl hc; rw [hpm] at this; exact this)
        | (go_at_call 35; exact Calls.quiet_of (breaks_any A c p d0 d1 d2 (by have := HD.out; omega) (by have := HD.out; omega) (by have := HD.out; omega) hp _ (Kd.C_below HR.out (pw_below_drewN hb1 _)) hc)))
      go_wp2
      go_ret
      exact ⟨ret_bool HQ.out.symm, pw_below_drewN hb1 _⟩
end Go.Proofs.Ytlhbdeebkkpkmaa
