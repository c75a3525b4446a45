/- The law FnCutWays: its walk. Conditions: none. -/
import Derived.Test.YtdhnjecbdclmaaaKYCodeRowM
import Derived.Test.YtdhnjecbdclmaaaKYDeepPM
import Derived.Test.YtdhnjecbdclmaaaKYWallManyM
namespace Go.Proofs.Ytdhnjecbdclmaaa
open Go.RowKit Go.Shelf Go.Proofs.YtdhnjecbdclmaaaW.PrintWords Go.Proofs.YtdhnjecbdclmaaaW.PrintMore
set_option linter.unusedVariables false
set_option linter.unusedSimpArgs false
set_option maxRecDepth 100000 in
set_option maxHeartbeats 4000000 in
theorem walk_FnCutWays (a0 : Option Addr) (len0 cap0 : Nat) (z0 : List Int) (w : World) (w0 : CodeRow w a0 len0 cap0 z0) (y0 : len0 * 1 ≤ 140737488351232) :
    Calls Try.prog 22 #[.slice a0 len0 cap0] w fun e w' => e = .returned (.bool true) ∧ Below w.heap.size w w' := by
  obtain ⟨bs, hc0⟩ := w0.code
  have HD := DrawCutWays_any a0 len0 cap0 bs w hc0
  clear hc0 w0
  by_cases hlen : 1048576 < len0
  · go_enter Try.func22, Try.ntmps22
    go_wp2_with fail
    go_ret
    exact ⟨rfl, Below.refl _ _⟩
  go_enter Try.func22, Try.ntmps22
  go_wp2_with fail
  refine HD.mono ?_
  rintro e w1 ⟨q, A, c, rfl, HQ⟩
  have HI := Aside0.mk (fun wx (hb : Below w1.heap.size w1 wx) => impl_CutWays.calls A c q (cutWaysP q).1 (cutWaysP q).2 wx (Kd.C_below HQ.out.2.2.2.1 hb) HQ.out.2.2.1 (by unfold impl_CutWays.f; rw [if_pos HQ.out.2.1]))
  have HS := Aside0.mk (fun wx (hb : Below w1.heap.size w1 wx) => spec_CutWays.calls A c q (cutWaysP q).1 (cutWaysP q).2 wx (Kd.C_below HQ.out.2.2.2.1 hb) HQ.out.2.2.1 (by unfold spec_CutWays.f; rw [if_pos HQ.out.2.1]))
  have HM := Aside0.mk (fun wx (hb : Below w1.heap.size w1 wx) => cutMany_any A c q HQ.out.2.1 wx (Kd.C_below HQ.out.2.2.2.1 hb) HQ.out.2.2.1)
  have HB := Aside0.mk HQ.out.2.2.2.2
  by_cases hok : (cutWaysP q).2 = true
  · have hpl : planG q = true := by
      cases h : planG q with
      | true => rfl
      | false => unfold cutWaysP at hok; rw [h] at hok; cases hok
    have hpos : 0 < waysP q := by
      unfold cutWaysP at hok
      rw [if_pos hpl] at hok
      have := of_decide_eq_true hok
      omega
    have hcm := waysP_cuts hpl hpos
    have v1 : cutWaysP q = (((waysP q : Nat) : Int), true) := by
      have h2 : decide (((waysP q : Nat) : Int) > 0) = true := decide_eq_true (by omega)
      unfold cutWaysP
      rw [if_pos hpl, h2]
    have v2 : cutManyP q = ((((cutsL (clP q) 0 0 q.length (wdP q)).length : Nat) : Int), true) := by unfold cutManyP; rw [if_pos hpl]
    have HT := Aside0.mk (fun wx (hb : Below w1.heap.size w1 wx) => planTurn_is A c q HQ.out.2.1 hpl wx (Kd.C_below HQ.out.2.2.2.1 hb) HQ.out.2.2.1)
    have hx : ∀ t : List ByteArray, Planned (fun r c => clP q (q.length - 1 - c) r) (wdP q) q.length t → cutWaysP t = (((waysP q : Nat) : Int), true) := fun t ht => by
      have h2 : decide (((waysP q : Nat) : Int) > 0) = true := decide_eq_true (by omega)
      unfold cutWaysP
      rw [if_pos ht.plan, waysP_turn hpl ht, h2]
    obtain ⟨N, hN⟩ : ∃ n, waysP q = n := ⟨_, rfl⟩
    obtain ⟨m, hm⟩ : ∃ n, (cutsL (clP q) 0 0 q.length (wdP q)).length = n := ⟨_, rfl⟩
    rw [hN] at hpos hcm v1 hx
    rw [hm] at hcm v2
    rw [v1] at HI HS
    rw [v2] at HM
    have HX := Aside0.mk hx
    have n1 : (1 : Int) ≤ (N : Int) := by omega
    have n2 : (m : Int) ≤ (N : Int) := by omega
    have n3 : max (1 : Int) (m : Int) ≤ (N : Int) := by omega
    clear hok hpl hpos hcm v1 v2 hx hN hm HD
    go_wp2_with fail
    refine (HI.out _ (Below.refl _ _)).mono ?_
    rintro e w2 ⟨rfl, h2⟩
    have H2 := Aside0.mk h2
    clear h2
    go_wp2_with fail
    refine (HS.out _ H2.out).mono ?_
    rintro e w3 ⟨rfl, h3⟩
    have H3 := Aside0.mk (H2.out.trans (h3.mono H2.out.size))
    clear h3
    go_wp2_with fail
    refine (HT.out _ H3.out).mono ?_
    rintro e w4 ⟨t, A4, c4, rfl, M4⟩
    have H4 := Aside0.mk (H3.out.trans (M4.out.2.2.2.2.mono H3.out.size))
    have HIT := Aside0.mk (impl_CutWays.calls A4 c4 t (N : Int) true w4 M4.out.2.2.2.1 M4.out.2.2.1 (by unfold impl_CutWays.f; rw [if_pos M4.out.2.1, HX.out t M4.out.1]))
    clear HT HX
    go_wp2_with fail
    refine HIT.out.mono ?_
    rintro e w5 ⟨rfl, h5⟩
    have H5 := Aside0.mk (H4.out.trans (h5.mono H4.out.size))
    clear h5
    go_wp2_with fail
    refine (HM.out _ H5.out).mono ?_
    rintro e w6 ⟨rfl, h6⟩
    have H6 := Aside0.mk (H5.out.trans (h6.mono H5.out.size))
    clear h6
    go_wp2_with fail
    go_ret
    exact ⟨rfl, HB.out.trans (H6.out.mono HB.out.size)⟩
  · have hokf : (cutWaysP q).2 = false := by simpa using hok
    rw [hokf] at HI HS
    obtain ⟨T, hTT⟩ : ∃ T : Int, (cutWaysP q).1 = T := ⟨_, rfl⟩
    rw [hTT] at HI HS
    clear hok hokf hTT HM HD
    go_wp2_with fail
    refine (HI.out _ (Below.refl _ _)).mono ?_
    rintro e w2 ⟨rfl, h2⟩
    have H2 := Aside0.mk h2
    clear h2
    go_wp2_with fail
    refine (HS.out _ H2.out).mono ?_
    rintro e w3 ⟨rfl, h3⟩
    have H3 := Aside0.mk (H2.out.trans (h3.mono H2.out.size))
    clear h3
    go_wp2_with fail
    go_ret
    exact ⟨rfl, HB.out.trans (H3.out.mono HB.out.size)⟩
end Go.Proofs.Ytdhnjecbdclmaaa
