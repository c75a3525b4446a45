/- ProofLooseIs, the program's and the reference's: contracts with one and the same answer. Conditions: the text has at most 1000000000 bytes, the list at most 1000000000 numbers. -/
import Derived.Test.YtlhbdeebkkpkmaaPermIn
import Derived.StillTailTactics
namespace Go.Proofs.Ytlhbdeebkkpkmaa
open Go.RowKit Go.Shelf Go.Proofs.YtlhbdeebkkpkmaaW.PrintWords Go.Proofs.YtlhbdeebkkpkmaaW.PrintMore
attribute [local go_sem] max2_int min2_int max_two min_two max_three min_three max_four min_four
set_option linter.unusedVariables false

def dgt (s : ByteArray) (o i : Nat) : Int := bt s ((o : Int) + 2 * i + 1) - 48
def fourB (p : List Int) (a b c d : Int) : Bool := decide (a < b ∧ b < c ∧ c < d ∧ 0 ≤ a ∧ d < p.length) && tightB (rd p a) (rd p b) (rd p c) (rd p d)
def wFour : ByteArray := ⟨#[102, 111, 117, 114]⟩
def looseIsB (p : List Int) (s : ByteArray) : Bool := readOK s wFour 4 && (permInB p && fourB p (dgt s 4 0) (dgt s 4 1) (dgt s 4 2) (dgt s 4 3))

theorem digL_four (s : ByteArray) : digL s wFour.size 4 = [dgt s 4 0, dgt s 4 1, dgt s 4 2, dgt s 4 3] := rfl
theorem dgt_range {s word : ByteArray} {m : Nat} (h : readOK s word m = true) (i : Nat) (hi : i < m) : 0 ≤ dgt s word.size i ∧ dgt s word.size i ≤ 9 := by
  unfold readOK at h
  rw [Bool.and_eq_true, List.all_eq_true] at h
  have := (digB_iff _ _ _).1 (h.2 i (List.mem_range.2 hi))
  unfold dgt; omega

theorem places_any (s word : ByteArray) (many : Nat) (hm : many ≤ 100) (w : World) :
    Calls Try.prog 33 #[.string s, .string word, .int .i64 many] w (ReadPost w s word many) := by
  have h := placesOf_f s word many hm
  cases hk : readOK s word many with
  | true =>
    rw [hk, if_pos rfl] at h
    exact (L1.impl_placesOf.calls _ s word many _ _ w h).mono fun e w' ⟨v, he, hR, hb⟩ => ⟨v, by rw [he, hk], hb, fun _ => hR⟩
  | false =>
    rw [hk, if_neg (by simp)] at h
    exact (L1.impl_placesOf.calls _ s word many _ _ w h).mono fun e w' ⟨v, he, hR, hb⟩ => ⟨v, by rw [he, hk], hb, fun h => by rw [hk] at h; cases h⟩

theorem permIn_any (A : Option Addr) (c : Nat) (p : List Int) (hp : p.length ≤ 1000000000) (w : World) (hr : Kd.C (Kd.int .i64) w A p.length p) (hc : p.length ≤ c) :
    Calls Try.prog 22 #[.slice A p.length c] w fun e w' => e = .returned (.bool (permInB p)) ∧ Drawn0 w w' :=
  L1.impl_PermIn.calls _ A c p _ w hr hc (permIn_f p hp)
theorem specPermIn_any (A : Option Addr) (c : Nat) (p : List Int) (hp : p.length ≤ 1000000000) (w : World) (hr : Kd.C (Kd.int .i64) w A p.length p) (hc : p.length ≤ c) :
    Calls Try.prog 29 #[.slice A p.length c] w fun e w' => e = .returned (.bool (permInB p)) ∧ Drawn0 w w' :=
  L1.spec_PermIn.calls _ A c p _ w hr hc (specIn_f p hp)

theorem R_cells {k : IntKind} {e base : Nat} {ok : Nat → Prop} {w : World} {v : Value} {xs : List Int} (h : (Kd.int k).R e w base ok v xs) (hne : xs ≠ []) :
    ∃ g cap, v = .slice (some ⟨g, 0, none⟩) xs.length cap ∧ xs.length ≤ cap ∧ base ≤ g ∧ g < w.heap.size ∧ ∀ (i : Nat) (x : Int), xs[i]? = some x → w.cell? ⟨g, i, none⟩ = some (.int k x) := by
  have ho := Kd.own_of_R (enc := Value.int k) (h1 := fun _ => rfl) h
  have hb := own_base ho
  have hl := own_lt ho
  rcases ho.2 with ⟨_, h0⟩ | ⟨g, cap, cur, rfl, hg, hh, hle, _⟩
  · exact absurd (List.eq_nil_of_length_eq_zero h0) hne
  · refine ⟨g, cap, rfl, hle, hg, hl g (by simp [Value.ownBlock]), fun i x hx => ?_⟩
    have hi : i < xs.length := (List.getElem?_eq_some_iff.1 hx).1
    rw [World.ownsRow.cellAt ho i (by omega)]
    simp [encs, hx]

set_option maxRecDepth 100000 in
set_option maxHeartbeats 4000000 in
theorem looseIs_any (A : Option Addr) (c : Nat) (p : List Int) (s : ByteArray) (hp : p.length ≤ 1000000000) (w : World) (hr : Kd.C (Kd.int .i64) w A p.length p) (hc : p.length ≤ c) :
    Calls Try.prog 14 #[.slice A p.length c, .string s] w fun e w' => e = .returned (.bool (looseIsB p s)) ∧ Below w.heap.size w w' := by
  obtain ⟨r, hres⟩ : ∃ r, looseIsB p s = r := ⟨_, rfl⟩
  rw [hres]
  have HP := places_any s wFour 4 (by omega) w
  unfold wFour at HP
  cases hok : readOK s wFour 4 with
  | false =>
    have hf : r = false := by rw [← hres]; unfold looseIsB; rw [hok]; rfl
    subst hf
    clear hres
    have HK := Aside0.mk hok
    clear hok
    have HR := Aside0.mk hr
    clear hr
    go_enter Try.func14, Try.ntmps14
    go_wp2_with (go_at_call 33; refine HP.mono ?_; rintro e w1 ⟨v, rfl, hb1, _⟩; rw [show readOK s ⟨#[102, 111, 117, 114]⟩ 4 = false from HK.out])
    go_ret
    exact ⟨rfl, hb1⟩
  | true =>
    have hd0 := dgt_range hok 0 (by omega)
    have hd1 := dgt_range hok 1 (by omega)
    have hd2 := dgt_range hok 2 (by omega)
    have hd3 := dgt_range hok 3 (by omega)
    rw [show wFour.size = 4 from rfl] at hd0 hd1 hd2 hd3
    have hf : r = (permInB p && fourB p (dgt s 4 0) (dgt s 4 1) (dgt s 4 2) (dgt s 4 3)) := by rw [← hres]; unfold looseIsB; rw [hok]; rfl
    clear hres
    obtain ⟨d0, e0⟩ : ∃ d, dgt s 4 0 = d := ⟨_, rfl⟩
    obtain ⟨d1, e1⟩ : ∃ d, dgt s 4 1 = d := ⟨_, rfl⟩
    obtain ⟨d2, e2⟩ : ∃ d, dgt s 4 2 = d := ⟨_, rfl⟩
    obtain ⟨d3, e3⟩ : ∃ d, dgt s 4 3 = d := ⟨_, rfl⟩
    rw [e0] at hd0 hf
    rw [e1] at hd1 hf
    rw [e2] at hd2 hf
    rw [e3] at hd3 hf
    have HK := Aside0.mk hok
    have HF := Aside0.mk hf
    have HR := Aside0.mk hr
    have HL := Aside0.mk (show digL s wFour.size 4 = [d0, d1, d2, d3] by rw [digL_four, e0, e1, e2, e3])
    clear hr hok hf e0 e1 e2 e3
    go_enter Try.func14, Try.ntmps14
    go_wp2_with (go_at_call 33; refine HP.mono ?_; rintro e w1 ⟨v, rfl, hb1, hR⟩; rw [show readOK s ⟨#[102, 111, 117, 114]⟩ 4 = true from HK.out]; replace hR := hR HK.out; rw [show digL s (ByteArray.mk #[102, 111, 117, 114]).size 4 = [d0, d1, d2, d3] from HL.out] at hR; obtain ⟨g, cv, rfl, hcv, hgb, hgl, hcells⟩ := R_cells hR (by simp); have f0 := hcells 0 d0 rfl; have f1 := hcells 1 d1 rfl; have f2 := hcells 2 d2 rfl; have f3 := hcells 3 d3 rfl; clear hcells hR; simp only [List.length_cons, List.length_nil, Nat.zero_add, Nat.reduceAdd] at hcv ⊢)
    refine (permIn_any A c p hp w1 (Kd.C_below HR.out hb1) hc).mono ?_
    rintro e w2 ⟨rfl, ⟨n2, rfl⟩⟩
    cases hpm : permInB p with
    | false =>
      have hf : r = false := by rw [HF.out, hpm]; rfl
      subst hf
      clear hpm
      go_wp2
      go_ret
      exact ⟨rfl, pw_below_drewN hb1 _⟩
    | true =>
      have HM := Aside0.mk hpm
      clear hpm
      by_cases c3 : (p.length : Int) ≤ d3
      case pos =>
        have hf : r = false := by
          rw [HF.out, HM.out, Bool.true_and]; unfold fourB; rw [decide_eq_false (by omega)]; rfl
        subst hf
        go_wp2
        go_ret
        exact ⟨rfl, pw_below_drewN hb1 _⟩
      case neg =>
        by_cases a1 : d0 < d1
        case neg =>
          have hf : r = false := by
            rw [HF.out, HM.out, Bool.true_and]; unfold fourB; rw [decide_eq_false (by omega)]; rfl
          subst hf
          have b1 : decide (d0 < d1) = false := decide_eq_false a1
          clear a1
          go_wp2
          go_quiet (fail)
          go_wp2
          go_quiet (fail)
          go_wp2
          go_ret
          exact ⟨rfl, by repeat (first | exact hb1 | apply pw_below_drewN)⟩
        case pos =>
        by_cases a2 : d1 < d2
        case neg =>
          have hf : r = false := by
            rw [HF.out, HM.out, Bool.true_and]; unfold fourB; rw [decide_eq_false (by omega)]; rfl
          subst hf
          have b1 : decide (d0 < d1) = true := decide_eq_true a1
          have b2 : decide (d1 < d2) = false := decide_eq_false a2
          clear a1 a2
          go_wp2
          go_quiet (fail)
          go_wp2
          go_quiet (fail)
          go_wp2
          go_ret
          exact ⟨rfl, by repeat (first | exact hb1 | apply pw_below_drewN)⟩
        case pos =>
        by_cases a3 : d2 < d3
        case neg =>
          have hf : r = false := by
            rw [HF.out, HM.out, Bool.true_and]; unfold fourB; rw [decide_eq_false (by omega)]; rfl
          subst hf
          have b1 : decide (d0 < d1) = true := decide_eq_true a1
          have b2 : decide (d1 < d2) = true := decide_eq_true a2
          have b3 : decide (d2 < d3) = false := decide_eq_false a3
          clear a1 a2 a3
          go_wp2
          go_quiet (fail)
          go_wp2
          go_quiet (fail)
          go_wp2
          go_ret
          exact ⟨rfl, by repeat (first | exact hb1 | apply pw_below_drewN)⟩
        case pos =>
          have hf : r = tightB (rd p d0) (rd p d1) (rd p d2) (rd p d3) := by
            rw [HF.out, HM.out, Bool.true_and]; unfold fourB; rw [decide_eq_true (by omega), Bool.true_and]
          have HF2 := Aside0.mk hf
          clear hf HF
          have hrw := Kd.C_below HR.out hb1
          obtain ⟨ad, hA, g0⟩ := Kd.at_int hrw d0 (by omega) (by omega)
          obtain ⟨ad1, e1, g1⟩ := Kd.at_int hrw d1 (by omega) (by omega)
          obtain ⟨ad2, e2, g2⟩ := Kd.at_int hrw d2 (by omega) (by omega)
          obtain ⟨ad3, e3, g3⟩ := Kd.at_int hrw d3 (by omega) (by omega)
          subst hA
          obtain rfl : ad = ad1 := by injection e1
          obtain rfl : ad = ad2 := by injection e2
          obtain rfl : ad = ad3 := by injection e3
          have b1 : decide (d0 < d1) = true := decide_eq_true a1
          have b2 : decide (d1 < d2) = true := decide_eq_true a2
          have b3 : decide (d2 < d3) = true := decide_eq_true a3
          have l0 : 0 ≤ d0 := hd0.1
          have l1 : 0 ≤ d1 := hd1.1
          have l2 : 0 ≤ d2 := hd2.1
          have l3 : 0 ≤ d3 := hd3.1
          have u0 : d0 < (p.length : Int) := by omega
          have u1 : d1 < (p.length : Int) := by omega
          have u2 : d2 < (p.length : Int) := by omega
          have u3 : d3 < (p.length : Int) := by omega
          clear a1 a2 a3 c3 e1 e2 e3 hrw hd0 hd1 hd2 hd3
          go_wp2
          go_quiet (fail)
          go_wp2
          refine wp_still_tail 27 (by kernel_rfl) (by kernel_rfl) ?_
          simp only [List.take_succ_cons, List.take_zero, List.drop_succ_cons, List.drop_zero]
          repeat still_step
          refine wpStill_nil ?_
          go_wp2_with (go_at_call 34; refine (tight_any _ _ _ _ _).mono ?_; rintro e w3 ⟨rfl, hb3⟩)
          go_ret
          refine ⟨ret_bool HF2.out.symm, ?_⟩
          exact below_step (by repeat (first | exact hb1 | apply pw_below_drewN)) hb3
end Go.Proofs.Ytlhbdeebkkpkmaa
