/- The law FnNearFar: its walk. Conditions: none. -/
import Derived.Test.YtbpppchkgjcahaaKCCodeRowM
import Derived.Test.YtbpppchkgjcahaaKCFarP
import Derived.Test.YtbpppchkgjcahaaKCPlanRoomsM
namespace Go.Proofs.Ytbpppchkgjcahaa
open Go.RowKit Go.Shelf Go.Proofs.YtbpppchkgjcahaaW.PrintWords Go.Proofs.YtbpppchkgjcahaaW.PrintMore
set_option linter.unusedVariables false
set_option linter.unusedSimpArgs false
set_option maxRecDepth 100000 in
set_option maxHeartbeats 8000000 in
theorem walk_FnNearFar (a0 : Option Addr) (len0 cap0 : Nat) (z0 : List Int) (w : World) (w0 : CodeRow w a0 len0 cap0 z0) (y0 : len0 * 1 ≤ 140737488351232) :
    Calls Try.prog 5 #[.slice a0 len0 cap0] w fun e w' => e = .returned (.bool true) ∧ Below w.heap.size w w' := by
  obtain ⟨bs, hc0⟩ := w0.code
  have HD := DrawNearFar_any a0 len0 cap0 bs w hc0
  clear hc0 w0
  by_cases hlen : 1048576 < len0
  · go_enter Try.func5, Try.ntmps5
    go_wp2_with fail
    go_ret
    exact ⟨rfl, Below.refl _ _⟩
  go_enter Try.func5, Try.ntmps5
  go_wp2_with fail
  refine HD.mono ?_
  rintro e w1 ⟨q, A, c, rfl, HQ⟩
  have HI := Aside0.mk (fun wx (hb : Below w1.heap.size w1 wx) => nearFar_any A c q HQ.out.2.1 wx (Kd.C_below HQ.out.2.2.2.1 hb) HQ.out.2.2.1)
  have HS := Aside0.mk (fun wx (hb : Below w1.heap.size w1 wx) => specNearFar_any A c q HQ.out.2.1 wx (Kd.C_below HQ.out.2.2.2.1 hb) HQ.out.2.2.1)
  have HR := Aside0.mk (fun wx (hb : Below w1.heap.size w1 wx) => planRooms_any A c q HQ.out.2.1 wx (Kd.C_below HQ.out.2.2.2.1 hb) HQ.out.2.2.1)
  have HF := Aside0.mk (fun hpl wx (hb : Below w1.heap.size w1 wx) => planFlip_is A c q HQ.out.2.1 hpl wx (Kd.C_below HQ.out.2.2.2.1 hb) HQ.out.2.2.1)
  have HB := Aside0.mk HQ.out.2.2.2.2
  by_cases hpl : planG q = true
  · obtain ⟨f0, f1, f2⟩ := far_facts hpl
    have hn := roomN_pos hpl
    have v1 : farP q = (farTo (nbP q) (roomN q) (roomN q), true) := by unfold farP; rw [if_pos hpl]
    have v2 : roomsP q = ((roomN q : Int), true) := by unfold roomsP; rw [if_pos hpl]; rfl
    have HFS : Aside0 (∀ q2, Planned (fun r c => clP q r (wdP q - 1 - c)) q.length (wdP q) q2 → farP q2 = farP q) := ⟨fun q2 h2 => by
      have h3 := FlipQ.of hpl h2
      unfold farP
      rw [if_pos hpl, if_pos h2.plan, far_same h3]⟩
    have HF2 := Aside0.mk (HF.out hpl)
    obtain ⟨F, hF⟩ : ∃ F, farTo (nbP q) (roomN q) (roomN q) = F := ⟨_, rfl⟩
    obtain ⟨n, hnn⟩ : ∃ n, roomN q = n := ⟨_, rfl⟩
    rw [hF] at v1
    rw [hF, hnn] at f1
    rw [hF] at f0
    rw [hF, hnn] at f2
    rw [hnn] at v2 hn
    rw [v1] at HI HS HFS
    rw [v2] at HR
    have hxy : ((F == 0) = true ∧ ((n : Int) == 1) = true) ∨ ((F == 0) = false ∧ ((n : Int) == 1) = false) := by
      by_cases e : n = 1
      · exact .inl ⟨by rw [beq_iff_eq]; exact f2.2 e, by rw [beq_iff_eq, e]; rfl⟩
      · exact .inr ⟨by rw [beq_eq_false_iff_ne]; exact fun h => e (f2.1 h), by rw [beq_eq_false_iff_ne]; omega⟩
    have HXY := Aside0.mk hxy
    clear hpl v1 v2 hF hnn HD hxy f2
    go_wp2_with fail
    refine (HI.out _ (Below.refl _ _)).mono ?_
    rintro e w2 ⟨rfl, h2⟩
    have K2 := Aside0.mk h2
    clear h2
    go_wp2_with fail
    refine (HS.out _ K2.out).mono ?_
    rintro e w3 ⟨rfl, h3⟩
    have K3 := Aside0.mk (K2.out.trans (h3.mono K2.out.size))
    clear h3
    go_wp2_with fail
    refine (HR.out _ K3.out).mono ?_
    rintro e w4 ⟨rfl, h4⟩
    have K4 := Aside0.mk (K3.out.trans (h4.mono K3.out.size))
    clear h4
    go_wp2_with fail
    refine (HF2.out _ K4.out).mono ?_
    rintro e w5 ⟨q2, A2, c2, rfl, HQ2⟩
    have K5 := Aside0.mk (K4.out.trans (HQ2.out.2.2.2.2.mono K4.out.size))
    have H6 : Aside0 (Calls Try.prog 25 #[.slice A2 q2.length c2] w5 fun e w' => e = .returned (.tuple #[.int .i64 F, .bool true]) ∧ Below w5.heap.size w5 w') := ⟨by
      have h := nearFar_any A2 c2 q2 HQ2.out.2.1 w5 HQ2.out.2.2.2.1 HQ2.out.2.2.1
      rw [HFS.out q2 HQ2.out.1] at h
      exact h⟩
    go_wp2_with fail
    refine H6.out.mono ?_
    rintro e w6 ⟨rfl, h6⟩
    have K6 := Aside0.mk (K5.out.trans (h6.mono K5.out.size))
    clear h6
    rcases HXY.out with ⟨e1, e2⟩ | ⟨e1, e2⟩
    · clear HXY
      go_wp2_with fail
      go_ret
      exact ⟨rfl, HB.out.trans (K6.out.mono HB.out.size)⟩
    · clear HXY
      go_wp2_with fail
      go_ret
      exact ⟨rfl, HB.out.trans (K6.out.mono HB.out.size)⟩
  · have hv : farP q = (0, false) := by unfold farP; rw [if_neg hpl]
    rw [hv] at HI HS
    clear hpl hv HD
    go_wp2_with fail
    refine (HI.out _ (Below.refl _ _)).mono ?_
    rintro e w2 ⟨rfl, h2⟩
    have H2 := Aside0.mk h2
    clear h2
    go_wp2_with fail
    refine (HS.out _ H2.out).mono ?_
    rintro e w3 ⟨rfl, h3⟩
    have H3 := Aside0.mk (H2.out.trans (h3.mono H2.out.size))
    clear h3
    go_wp2_with fail
    go_ret
    exact ⟨rfl, HB.out.trans (H3.out.mono HB.out.size)⟩
end Go.Proofs.Ytbpppchkgjcahaa
