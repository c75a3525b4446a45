/- The laws FnTees and FnWalls: their walks. Conditions: none. -/
import Derived.Test.YtdhnjecbdclmaaaKCodeRowM
import Derived.Test.YtdhnjecbdclmaaaKFourDM
import Derived.Test.YtdhnjecbdclmaaaKWallEnds
import Derived.Test.YtdhnjecbdclmaaaKSpecManyM
import Derived.Test.YtdhnjecbdclmaaaKTurnedM
namespace Go.Proofs.Ytdhnjecbdclmaaa
open Go.RowKit Go.Shelf Go.Proofs.YtdhnjecbdclmaaaW.PrintWords Go.Proofs.YtdhnjecbdclmaaaW.PrintMore
set_option linter.unusedVariables false
set_option linter.unusedSimpArgs false

set_option maxRecDepth 100000 in
set_option maxHeartbeats 4000000 in
theorem walk_FnTees (a0 : Option Addr) (len0 cap0 : Nat) (z0 : List Int) (w : World) (w0 : CodeRow w a0 len0 cap0 z0) (y0 : len0 * 1 ≤ 140737488351232) :
    Calls Try.prog 19 #[.slice a0 len0 cap0] w fun e w' => e = .returned (.bool true) ∧ Below w.heap.size w w' := by
  obtain ⟨bs, hc0⟩ := w0.code
  have HD := DrawWallTees_any a0 len0 cap0 bs w hc0
  clear hc0 w0
  by_cases hlen : 1048576 < len0
  · go_enter Try.func19, Try.ntmps19
    go_wp2_with fail
    go_ret
    exact ⟨rfl, Below.refl _ _⟩
  go_enter Try.func19, Try.ntmps19
  go_wp2_with fail
  refine HD.mono ?_
  rintro e w1 ⟨q, A, c, rfl, HQ⟩
  have HI := Aside0.mk (fun wx (hb : Below w1.heap.size w1 wx) => wallTees_any A c q HQ.out.2.1 wx (Kd.C_below HQ.out.2.2.2.1 hb) HQ.out.2.2.1)
  have HS := Aside0.mk (fun wx (hb : Below w1.heap.size w1 wx) => spec_WallTees.calls A c q (teesP q).1 (teesP q).2 wx (Kd.C_below HQ.out.2.2.2.1 hb) HQ.out.2.2.1 (by unfold spec_WallTees.f; rw [if_pos HQ.out.2.1]))
  have HE := Aside0.mk (fun wx (hb : Below w1.heap.size w1 wx) => wallEnds_any A c q HQ.out.2.1 wx (Kd.C_below HQ.out.2.2.2.1 hb) HQ.out.2.2.1)
  have HM := Aside0.mk (fun wx (hb : Below w1.heap.size w1 wx) => wallMany_any A c q HQ.out.2.1 wx (Kd.C_below HQ.out.2.2.2.1 hb) HQ.out.2.2.1)
  have HB := Aside0.mk HQ.out.2.2.2.2
  by_cases hpl : planG q = true
  · have hlaw := tees_law (planFlat hpl)
    have hsm := walls_law (planFlat hpl)
    have hfew := (planFlat hpl).few
    have v1 : teesP q = (((allPts (clP q) (wdP q) 3 1 (q.length - 1) : Nat) : Int), true) := by unfold teesP; rw [if_pos hpl]; rfl
    have v2 : endsP q = (((endN (clP q) q.length (wdP q) : Nat) : Int), true) := by unfold endsP; rw [if_pos hpl]
    have v3 : manyP q = ((((upN (clP q) q.length (wdP q) : Nat) : Int), ((lvN (clP q) q.length (wdP q) : Nat) : Int)), true) := by unfold manyP; rw [if_pos hpl]
    obtain ⟨t, ht⟩ : ∃ t, allPts (clP q) (wdP q) 3 1 (q.length - 1) = t := ⟨_, rfl⟩
    obtain ⟨x, hx⟩ : ∃ t, endN (clP q) q.length (wdP q) = t := ⟨_, rfl⟩
    obtain ⟨u, hu⟩ : ∃ t, upN (clP q) q.length (wdP q) = t := ⟨_, rfl⟩
    obtain ⟨l, hl⟩ : ∃ t, lvN (clP q) q.length (wdP q) = t := ⟨_, rfl⟩
    rw [ht, hx, hu, hl] at hlaw
    rw [hu, hl] at hsm
    rw [ht] at v1
    rw [hx] at v2
    rw [hu, hl] at v3
    rw [v1] at HI HS
    rw [v2] at HE
    rw [v3] at HM
    have f1 : u + l ≤ 9 := by omega
    have f2 : t + x ≤ 18 := by omega
    have d1 : (((t : Int) + (x : Int)) == 2 * ((u : Int) + (l : Int))) = true := by rw [beq_iff_eq]; omega
    clear hpl hlaw hsm hfew v1 v2 v3 ht hx hu hl HD
    go_wp2_with fail
    refine (HI.out _ (Below.refl _ _)).mono ?_
    rintro e w2 ⟨rfl, h2⟩
    have H2 := Aside0.mk h2
    clear h2
    go_wp2_with fail
    refine (HS.out _ H2.out).mono ?_
    rintro e w3 ⟨rfl, h3⟩
    have H3 := Aside0.mk (H2.out.trans (h3.mono H2.out.size))
    clear h3
    go_wp2_with fail
    refine (HE.out _ H3.out).mono ?_
    rintro e w4 ⟨rfl, h4⟩
    have H4 := Aside0.mk (H3.out.trans (h4.mono H3.out.size))
    clear h4
    go_wp2_with fail
    refine (HM.out _ H4.out).mono ?_
    rintro e w5 ⟨rfl, h5⟩
    have H5 := Aside0.mk (H4.out.trans (h5.mono H4.out.size))
    clear h5
    go_wp2_with fail
    go_ret
    exact ⟨rfl, HB.out.trans (H5.out.mono HB.out.size)⟩
  · have hv : teesP q = (0, false) := by unfold teesP; rw [if_neg hpl]
    rw [hv] at HI HS
    clear hpl hv HD
    go_wp2_with fail
    refine (HI.out _ (Below.refl _ _)).mono ?_
    rintro e w2 ⟨rfl, h2⟩
    have H2 := Aside0.mk h2
    clear h2
    go_wp2_with fail
    refine (HS.out _ H2.out).mono ?_
    rintro e w3 ⟨rfl, h3⟩
    have H3 := Aside0.mk (H2.out.trans (h3.mono H2.out.size))
    clear h3
    go_wp2_with fail
    go_ret
    exact ⟨rfl, HB.out.trans (H3.out.mono HB.out.size)⟩
set_option maxRecDepth 100000 in
set_option maxHeartbeats 4000000 in
theorem walk_FnWalls (a0 : Option Addr) (len0 cap0 : Nat) (z0 : List Int) (w : World) (w0 : CodeRow w a0 len0 cap0 z0) (y0 : len0 * 1 ≤ 140737488351232) :
    Calls Try.prog 20 #[.slice a0 len0 cap0] w fun e w' => e = .returned (.bool true) ∧ Below w.heap.size w w' := by
  obtain ⟨bs, hc0⟩ := w0.code
  have HD := DrawWallMany_any a0 len0 cap0 bs w hc0
  clear hc0 w0
  by_cases hlen : 1048576 < len0
  · go_enter Try.func20, Try.ntmps20
    go_wp2_with fail
    go_ret
    exact ⟨rfl, Below.refl _ _⟩
  go_enter Try.func20, Try.ntmps20
  go_wp2_with fail
  refine HD.mono ?_
  rintro e w1 ⟨q, A, c, rfl, HQ⟩
  have HI := Aside0.mk (fun wx (hb : Below w1.heap.size w1 wx) => wallMany_any A c q HQ.out.2.1 wx (Kd.C_below HQ.out.2.2.2.1 hb) HQ.out.2.2.1)
  have HS := Aside0.mk (fun wx (hb : Below w1.heap.size w1 wx) => specWallMany_any A c q HQ.out.2.1 wx (Kd.C_below HQ.out.2.2.2.1 hb) HQ.out.2.2.1)
  have HC := Aside0.mk (fun wx (hb : Below w1.heap.size w1 wx) => wallCross_any A c q HQ.out.2.1 wx (Kd.C_below HQ.out.2.2.2.1 hb) HQ.out.2.2.1)
  have HR := Aside0.mk (fun wx (hb : Below w1.heap.size w1 wx) => planRooms_any A c q HQ.out.2.1 wx (Kd.C_below HQ.out.2.2.2.1 hb) HQ.out.2.2.1)
  have HB := Aside0.mk HQ.out.2.2.2.2
  by_cases hpl : planG q = true
  · have hlaw := walls_law (planFlat hpl)
    have hfew := (planFlat hpl).few
    have HT := Aside0.mk (fun wx (hb : Below w1.heap.size w1 wx) => planTrans_is A c q HQ.out.2.1 hpl wx (Kd.C_below HQ.out.2.2.2.1 hb) HQ.out.2.2.1)
    have v1 : crossP q = (((allPts (clP q) (wdP q) 4 1 (q.length - 1) : Nat) : Int), true) := by unfold crossP; rw [if_pos hpl]; rfl
    have v2 : roomsP q = (((boxesP q).length : Int), true) := by unfold roomsP; rw [hpl]; rfl
    have v3 : manyP q = ((((upN (clP q) q.length (wdP q) : Nat) : Int), ((lvN (clP q) q.length (wdP q) : Nat) : Int)), true) := by unfold manyP; rw [if_pos hpl]
    have hx : ∀ t : List ByteArray, Planned (fun r c => clP q c r) (wdP q) q.length t → manyP t = ((((lvN (clP q) q.length (wdP q) : Nat) : Int), ((upN (clP q) q.length (wdP q) : Nat) : Int)), true) := fun t ht => by
      unfold manyP
      obtain ⟨g1, g2⟩ := trans_walls ht.same
      rw [if_pos ht.plan, ht.high, ht.wide, g1, g2]
    obtain ⟨x, hX⟩ : ∃ t, allPts (clP q) (wdP q) 4 1 (q.length - 1) = t := ⟨_, rfl⟩
    obtain ⟨r, hr⟩ : ∃ t, (boxesP q).length = t := ⟨_, rfl⟩
    obtain ⟨u, hu⟩ : ∃ t, upN (clP q) q.length (wdP q) = t := ⟨_, rfl⟩
    obtain ⟨l, hl⟩ : ∃ t, lvN (clP q) q.length (wdP q) = t := ⟨_, rfl⟩
    rw [hX, hr, hu, hl] at hlaw
    rw [hX] at v1
    rw [hr] at v2 hfew
    rw [hu, hl] at v3
    rw [hu, hl] at hx
    rw [v1] at HC
    rw [v2] at HR
    rw [v3] at HI HS
    have HX := Aside0.mk hx
    have f1 : u + l + x ≤ 9 := by omega
    have d1 : ((r : Int) == (u : Int) + (l : Int) + (x : Int) + 1) = true := by rw [beq_iff_eq]; omega
    clear hpl hlaw hfew v1 v2 v3 hX hr hu hl hx HD
    go_wp2_with fail
    refine (HI.out _ (Below.refl _ _)).mono ?_
    rintro e w2 ⟨rfl, h2⟩
    have H2 := Aside0.mk h2
    clear h2
    go_wp2_with fail
    refine (HS.out _ H2.out).mono ?_
    rintro e w3 ⟨rfl, h3⟩
    have H3 := Aside0.mk (H2.out.trans (h3.mono H2.out.size))
    clear h3
    go_wp2_with fail
    refine (HC.out _ H3.out).mono ?_
    rintro e w4 ⟨rfl, h4⟩
    have H4 := Aside0.mk (H3.out.trans (h4.mono H3.out.size))
    clear h4
    go_wp2_with fail
    refine (HR.out _ H4.out).mono ?_
    rintro e w5 ⟨rfl, h5⟩
    have H5 := Aside0.mk (H4.out.trans (h5.mono H4.out.size))
    clear h5
    go_wp2_with fail
    refine (HT.out _ H5.out).mono ?_
    rintro e w6 ⟨t, A6, c6, rfl, M6⟩
    have H6 := Aside0.mk (H5.out.trans (M6.out.2.2.2.2.mono H5.out.size))
    have HMT := Aside0.mk (wallMany_any A6 c6 t M6.out.2.1 w6 M6.out.2.2.2.1 M6.out.2.2.1)
    rw [HX.out t M6.out.1] at HMT
    clear HT HX
    go_wp2_with fail
    refine HMT.out.mono ?_
    rintro e w7 ⟨rfl, h7⟩
    have H7 := Aside0.mk (H6.out.trans (h7.mono H6.out.size))
    clear h7 HMT
    go_wp2_with fail
    go_ret
    exact ⟨rfl, HB.out.trans (H7.out.mono HB.out.size)⟩
  · have hv : manyP q = ((0, 0), false) := by unfold manyP; rw [if_neg hpl]
    rw [hv] at HI HS
    clear hpl hv HD
    go_wp2_with fail
    refine (HI.out _ (Below.refl _ _)).mono ?_
    rintro e w2 ⟨rfl, h2⟩
    have H2 := Aside0.mk h2
    clear h2
    go_wp2_with fail
    refine (HS.out _ H2.out).mono ?_
    rintro e w3 ⟨rfl, h3⟩
    have H3 := Aside0.mk (H2.out.trans (h3.mono H2.out.size))
    clear h3
    go_wp2_with fail
    go_ret
    exact ⟨rfl, HB.out.trans (H3.out.mono HB.out.size)⟩
end Go.Proofs.Ytdhnjecbdclmaaa
