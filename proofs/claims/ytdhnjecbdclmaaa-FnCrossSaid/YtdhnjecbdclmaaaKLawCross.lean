/- The law FnCross: its walk. Conditions: none. -/
import Derived.Test.YtdhnjecbdclmaaaKCodeRowM
import Derived.Test.YtdhnjecbdclmaaaKFourDM
import Derived.Test.YtdhnjecbdclmaaaKTurned
namespace Go.Proofs.Ytdhnjecbdclmaaa
open Go.RowKit Go.Shelf Go.Proofs.YtdhnjecbdclmaaaW.PrintWords Go.Proofs.YtdhnjecbdclmaaaW.PrintMore
set_option linter.unusedVariables false
set_option linter.unusedSimpArgs false

theorem pointsP_turn {q t : List ByteArray} (many : Int) (ht : Planned (fun r c => clP q (q.length - 1 - c) r) (wdP q) q.length t) : pointsP t many = pointsP q many := by
  unfold pointsP
  rw [ht.high, ht.wide, pts_turn many ht.same]
theorem pointsP_flip {q t : List ByteArray} (many : Int) (ht : Planned (fun r c => clP q r (wdP q - 1 - c)) q.length (wdP q) t) : pointsP t many = pointsP q many := by
  unfold pointsP
  rw [ht.high, ht.wide, pts_flip many ht.same]
theorem crossP_of {t : List ByteArray} {N : Int} (hp : planG t = true) (h : pointsP t 4 = N) : crossP t = (N, true) := by unfold crossP; rw [if_pos hp, h]
set_option maxRecDepth 100000 in
set_option maxHeartbeats 4000000 in
theorem walk_FnCross (a0 : Option Addr) (len0 cap0 : Nat) (z0 : List Int) (w : World) (w0 : CodeRow w a0 len0 cap0 z0) (y0 : len0 * 1 ≤ 140737488351232) :
    Calls Try.prog 11 #[.slice a0 len0 cap0] w fun e w' => e = .returned (.bool true) ∧ Below w.heap.size w w' := by
  obtain ⟨bs, hc0⟩ := w0.code
  have HD := DrawWallCross_any a0 len0 cap0 bs w hc0
  clear hc0 w0
  by_cases hlen : 1048576 < len0
  · go_enter Try.func11, Try.ntmps11
    go_wp2_with fail
    go_ret
    exact ⟨rfl, Below.refl _ _⟩
  go_enter Try.func11, Try.ntmps11
  go_wp2_with fail
  refine HD.mono ?_
  rintro e w1 ⟨q, A, c, rfl, HQ⟩
  have HI := Aside0.mk (fun wx (hb : Below w1.heap.size w1 wx) => wallCross_any A c q HQ.out.2.1 wx (Kd.C_below HQ.out.2.2.2.1 hb) HQ.out.2.2.1)
  have HS := Aside0.mk (fun wx (hb : Below w1.heap.size w1 wx) => spec_WallCross.calls A c q (crossP q).1 (crossP q).2 wx (Kd.C_below HQ.out.2.2.2.1 hb) HQ.out.2.2.1 (by unfold spec_WallCross.f; rw [if_pos HQ.out.2.1]))
  have HW := Aside0.mk (fun wx (hb : Below w1.heap.size w1 wx) => wallPlain_any A c q HQ.out.2.1 wx (Kd.C_below HQ.out.2.2.2.1 hb) HQ.out.2.2.1)
  have HB := Aside0.mk HQ.out.2.2.2.2
  by_cases hpl : planG q = true
  · have hv := crossP_of hpl rfl
    have HT := Aside0.mk (fun wx (hb : Below w1.heap.size w1 wx) => planTurn_is A c q HQ.out.2.1 hpl wx (Kd.C_below HQ.out.2.2.2.1 hb) HQ.out.2.2.1)
    have HF := Aside0.mk (fun wx (hb : Below w1.heap.size w1 wx) => planFlip_is A c q HQ.out.2.1 hpl wx (Kd.C_below HQ.out.2.2.2.1 hb) HQ.out.2.2.1)
    have hpp : plainP q = (pointsP q 4 == 0) := by unfold plainP; rw [hpl, Bool.true_and]
    obtain ⟨N, hN⟩ : ∃ N, pointsP q 4 = N := ⟨_, rfl⟩
    have HXT := Aside0.mk (fun (t : List ByteArray) (ht : Planned (fun r c => clP q (q.length - 1 - c) r) (wdP q) q.length t) => crossP_of ht.plan ((pointsP_turn 4 ht).trans hN))
    have HXF := Aside0.mk (fun (t : List ByteArray) (ht : Planned (fun r c => clP q r (wdP q - 1 - c)) q.length (wdP q) t) => crossP_of ht.plan ((pointsP_flip 4 ht).trans hN))
    rw [hN] at hv hpp
    rw [hv] at HI HS
    rw [hpp] at HW
    obtain ⟨b, hb⟩ : ∃ b, (N == 0) = b := ⟨_, rfl⟩
    rw [hb] at HW
    clear hpl hv hpp hN HD
    go_wp2_with fail
    refine (HI.out _ (Below.refl _ _)).mono ?_
    rintro e w2 ⟨rfl, h2⟩
    have H2 := Aside0.mk h2
    clear h2
    go_wp2_with fail
    refine (HS.out _ H2.out).mono ?_
    rintro e w3 ⟨rfl, h3⟩
    have H3 := Aside0.mk (H2.out.trans (h3.mono H2.out.size))
    clear h3
    go_wp2_with fail
    refine (HT.out _ H3.out).mono ?_
    rintro e w4 ⟨t, A4, c4, rfl, M4⟩
    have H4 := Aside0.mk (H3.out.trans (M4.out.2.2.2.2.mono H3.out.size))
    go_wp2_with fail
    refine (HF.out _ H4.out).mono ?_
    rintro e w5 ⟨f, A5, c5, rfl, M5⟩
    have H5 := Aside0.mk (H4.out.trans (M5.out.2.2.2.2.mono H4.out.size))
    have HIT := Aside0.mk (wallCross_any A4 c4 t M4.out.2.1 w5 (Kd.C_below M4.out.2.2.2.1 M5.out.2.2.2.2) M4.out.2.2.1)
    rw [HXT.out t M4.out.1] at HIT
    clear HT HF
    go_wp2_with fail
    refine HIT.out.mono ?_
    rintro e w6 ⟨rfl, h6⟩
    have HIF := Aside0.mk (wallCross_any A5 c5 f M5.out.2.1 w6 (Kd.C_below M5.out.2.2.2.1 h6) M5.out.2.2.1)
    rw [HXF.out f M5.out.1] at HIF
    have H6 := Aside0.mk (H5.out.trans (h6.mono H5.out.size))
    clear h6
    go_wp2_with fail
    refine HIF.out.mono ?_
    rintro e w7 ⟨rfl, h7⟩
    have H7 := Aside0.mk (H6.out.trans (h7.mono H6.out.size))
    clear h7 HIT HIF HXT HXF
    go_wp2_with fail
    refine (HW.out _ H7.out).mono ?_
    rintro e w8 ⟨rfl, h8⟩
    have H8 := Aside0.mk (H7.out.trans (h8.mono H7.out.size))
    clear h8
    cases b with
    | true =>
      go_wp2_with fail
      go_ret
      exact ⟨rfl, HB.out.trans (H8.out.mono HB.out.size)⟩
    | false =>
      go_wp2_with fail
      go_ret
      exact ⟨rfl, HB.out.trans (H8.out.mono HB.out.size)⟩
  · have hv : crossP q = (0, false) := by unfold crossP; rw [if_neg hpl]
    rw [hv] at HI HS
    clear hpl hv HW HD
    go_wp2_with fail
    refine (HI.out _ (Below.refl _ _)).mono ?_
    rintro e w2 ⟨rfl, h2⟩
    have H2 := Aside0.mk h2
    clear h2
    go_wp2_with fail
    refine (HS.out _ H2.out).mono ?_
    rintro e w3 ⟨rfl, h3⟩
    have H3 := Aside0.mk (H2.out.trans (h3.mono H2.out.size))
    clear h3
    go_wp2_with fail
    go_ret
    exact ⟨rfl, HB.out.trans (H3.out.mono HB.out.size)⟩
end Go.Proofs.Ytdhnjecbdclmaaa
