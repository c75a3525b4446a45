/- Laws over drawn plans and proofs about cuts: the laws' own walks. Conditions: none. -/
import Derived.Test.YtdhnjecbdclmaaaKSPlanDrawM
import Derived.Test.YtdhnjecbdclmaaaKSProofLaw
import Derived.Test.YtdhnjecbdclmaaaKSL6x
namespace Go.Proofs.Ytdhnjecbdclmaaa
open Go.RowKit Go.Shelf Go.Proofs.YtdhnjecbdclmaaaW.PrintWords Go.Proofs.YtdhnjecbdclmaaaW.PrintMore
set_option linter.unusedVariables false
set_option linter.unusedSimpArgs false
set_option maxRecDepth 100000 in
set_option maxHeartbeats 4000000 in
theorem walk_FnProofCut (a0 : Option Addr) (len0 cap0 : Nat) (z0 : List Int) (w : World) (w0 : CodeRow w a0 len0 cap0 z0) (y0 : len0 * 1 ≤ 140737488351232) :
    Calls Try.prog 6 #[.slice a0 len0 cap0] w fun e w' => e = .returned (.bool true) ∧ Below w.heap.size w w' := by
  obtain ⟨bs, hc0⟩ := w0.code
  have HD := DrawProofCut_any a0 len0 cap0 bs w hc0
  clear hc0 w0
  by_cases hlen : 1048576 < len0
  · go_enter Try.func6, Try.ntmps6
    go_wp2_with fail
    go_ret
    exact ⟨rfl, Below.refl _ _⟩
  go_enter Try.func6, Try.ntmps6
  go_wp2_with fail
  refine HD.mono ?_
  rintro e w1 ⟨q, A, c, rfl, HQ⟩
  have HSM := Aside0.mk (plan_small HQ.out.1)
  obtain ⟨hsz, hok⟩ := proofCutP_size HQ.out.1
  have hown := proof_own HQ.out.1
  have HI := Aside0.mk (fun wx (hb : Below w1.heap.size w1 wx) => proofCut_any A c q HSM.out wx (Kd.C_below HQ.out.2.2.1 hb) HQ.out.2.1)
  have HS := Aside0.mk (fun wx (hb : Below w1.heap.size w1 wx) => specProofCut_any A c q HSM.out wx (Kd.C_below HQ.out.2.2.1 hb) HQ.out.2.1)
  have HP := Aside0.mk (fun wx (hb : Below w1.heap.size w1 wx) => proofCutIs_any A c q HSM.out (proofCutP q).1 (by omega) wx (Kd.C_below HQ.out.2.2.1 hb) HQ.out.2.1)
  have HC := Aside0.mk (fun wx (hb : Below w1.heap.size w1 wx) => impl_CutIs.calls A c q (cutIsP q) wx (Kd.C_below HQ.out.2.2.1 hb) HQ.out.2.1 (by unfold impl_CutIs.f; rw [if_pos HSM.out]))
  have HB := Aside0.mk HQ.out.2.2.2
  rw [hok] at HI HS
  rw [hown] at HP
  obtain ⟨n, hn⟩ : ∃ n, q.length = n := ⟨_, rfl⟩
  obtain ⟨T, hT⟩ : ∃ T, (proofCutP q).1 = T := ⟨_, rfl⟩
  obtain ⟨b, hb⟩ : ∃ b, cutIsP q = b := ⟨_, rfl⟩
  rw [hn, hT] at HI HS HP
  rw [hb] at HP
  rw [hn, hb] at HC
  rw [hn]
  clear HD hn hT hb hown hok hsz HQ
  go_wp2_with fail
  refine (HI.out _ (Below.refl _ _)).mono ?_
  rintro e w2 ⟨rfl, h2⟩
  have H2 := Aside0.mk h2
  clear h2
  go_wp2_with fail
  refine (HS.out _ H2.out).mono ?_
  rintro e w3 ⟨rfl, h3⟩
  have H3 := Aside0.mk (H2.out.trans (h3.mono H2.out.size))
  clear h3
  cases b with
  | true =>
    simp only [if_true] at HP
    go_wp2_with fail
    refine (HP.out _ H3.out).mono ?_
    rintro e w4 ⟨rfl, h4⟩
    have H4 := Aside0.mk (H3.out.trans (h4.mono H3.out.size))
    clear h4
    go_wp2_with fail
    refine (HC.out _ H4.out).mono ?_
    rintro e w5 ⟨rfl, h5⟩
    have H5 := Aside0.mk (H4.out.trans (h5.mono H4.out.size))
    clear h5
    go_wp2_with fail
    go_ret
    exact ⟨rfl, HB.out.trans (H5.out.mono HB.out.size)⟩
  | false =>
    simp only [Bool.false_eq_true, if_false] at HP
    go_wp2_with fail
    refine (HP.out _ H3.out).mono ?_
    rintro e w4 ⟨rfl, h4⟩
    have H4 := Aside0.mk (H3.out.trans (h4.mono H3.out.size))
    clear h4
    go_wp2_with fail
    refine (HC.out _ H4.out).mono ?_
    rintro e w5 ⟨rfl, h5⟩
    have H5 := Aside0.mk (H4.out.trans (h5.mono H4.out.size))
    clear h5
    go_wp2_with fail
    go_ret
    exact ⟨rfl, HB.out.trans (H5.out.mono HB.out.size)⟩
set_option maxRecDepth 100000 in
set_option maxHeartbeats 4000000 in
theorem walk_FnCutProofIs (a0 : Option Addr) (len0 cap0 : Nat) (z0 : List Int) (w : World) (w0 : CodeRow w a0 len0 cap0 z0) (y0 : len0 * 1 ≤ 140737488351232) :
    Calls Try.prog 7 #[.slice a0 len0 cap0] w fun e w' => e = .returned (.bool true) ∧ Below w.heap.size w w' := by
  obtain ⟨bs, hc0⟩ := w0.code
  have HD := DrawProofCutIs_any a0 len0 cap0 bs w hc0
  clear hc0 w0
  by_cases hlen : 1048576 < len0
  · go_enter Try.func7, Try.ntmps7
    go_wp2_with fail
    go_ret
    exact ⟨rfl, Below.refl _ _⟩
  go_enter Try.func7, Try.ntmps7
  go_wp2_with fail
  refine HD.mono ?_
  rintro e w1 ⟨q, A, c, s, rfl, HQ⟩
  have HSM := Aside0.mk (plan_small HQ.out.1)
  have HT := Aside0.mk (proof_tells HQ.out.1 s)
  have hs9 := HQ.out.2.1
  have HI := Aside0.mk (fun wx (hb : Below w1.heap.size w1 wx) => proofCutIs_any A c q HSM.out s (by omega) wx (Kd.C_below HQ.out.2.2.2.1 hb) HQ.out.2.2.1)
  have HS := Aside0.mk (fun wx (hb : Below w1.heap.size w1 wx) => spec_ProofCutIs.calls A c q s (proofCutIsP q s).1 (proofCutIsP q s).2 wx (Kd.C_below HQ.out.2.2.2.1 hb) HQ.out.2.2.1 (by unfold spec_ProofCutIs.f; rw [if_pos ⟨HSM.out, by omega⟩]))
  have HC := Aside0.mk (fun wx (hb : Below w1.heap.size w1 wx) => impl_CutIs.calls A c q (cutIsP q) wx (Kd.C_below HQ.out.2.2.2.1 hb) HQ.out.2.2.1 (by unfold impl_CutIs.f; rw [if_pos HSM.out]))
  have HB := Aside0.mk HQ.out.2.2.2.2
  obtain ⟨n, hn⟩ : ∃ n, q.length = n := ⟨_, rfl⟩
  obtain ⟨b, hb⟩ : ∃ b, cutIsP q = b := ⟨_, rfl⟩
  obtain ⟨x, hx⟩ : ∃ x, (proofCutIsP q s).1 = x := ⟨_, rfl⟩
  obtain ⟨ok, hok⟩ : ∃ ok, (proofCutIsP q s).2 = ok := ⟨_, rfl⟩
  rw [hx, hok] at HI HS HT
  rw [hb] at HT HC
  rw [hn] at HI HS HC
  rw [hn]
  clear HD hn hb hx hok HQ
  cases ok with
  | false =>
    go_wp2_with fail
    refine (HI.out _ (Below.refl _ _)).mono ?_
    rintro e w2 ⟨rfl, h2⟩
    have H2 := Aside0.mk h2
    clear h2
    go_wp2_with fail
    refine (HS.out _ H2.out).mono ?_
    rintro e w3 ⟨rfl, h3⟩
    have H3 := Aside0.mk (H2.out.trans (h3.mono H2.out.size))
    clear h3
    go_wp2_with fail
    go_ret
    exact ⟨rfl, HB.out.trans (H3.out.mono HB.out.size)⟩
  | true =>
    have hxv := HT.out rfl
    subst hxv
    cases b with
    | true =>
      simp only [if_true] at HI HS
      go_wp2_with fail
      refine (HI.out _ (Below.refl _ _)).mono ?_
      rintro e w2 ⟨rfl, h2⟩
      have H2 := Aside0.mk h2
      clear h2
      go_wp2_with fail
      refine (HS.out _ H2.out).mono ?_
      rintro e w3 ⟨rfl, h3⟩
      have H3 := Aside0.mk (H2.out.trans (h3.mono H2.out.size))
      clear h3
      go_wp2_with fail
      refine (HC.out _ H3.out).mono ?_
      rintro e w4 ⟨rfl, h4⟩
      have H4 := Aside0.mk (H3.out.trans (h4.mono H3.out.size))
      clear h4
      go_wp2_with fail
      go_ret
      exact ⟨rfl, HB.out.trans (H4.out.mono HB.out.size)⟩
    | false =>
      simp only [Bool.false_eq_true, if_false] at HI HS
      go_wp2_with fail
      refine (HI.out _ (Below.refl _ _)).mono ?_
      rintro e w2 ⟨rfl, h2⟩
      have H2 := Aside0.mk h2
      clear h2
      go_wp2_with fail
      refine (HS.out _ H2.out).mono ?_
      rintro e w3 ⟨rfl, h3⟩
      have H3 := Aside0.mk (H2.out.trans (h3.mono H2.out.size))
      clear h3
      go_wp2_with fail
      refine (HC.out _ H3.out).mono ?_
      rintro e w4 ⟨rfl, h4⟩
      have H4 := Aside0.mk (H3.out.trans (h4.mono H3.out.size))
      clear h4
      go_wp2_with fail
      go_ret
      exact ⟨rfl, HB.out.trans (H4.out.mono HB.out.size)⟩
end Go.Proofs.Ytdhnjecbdclmaaa
