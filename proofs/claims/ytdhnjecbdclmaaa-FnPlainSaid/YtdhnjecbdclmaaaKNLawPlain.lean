/- The law FnPlain: its walk. Conditions: none. -/
import Derived.Test.YtdhnjecbdclmaaaKNCodeRowM
import Derived.Test.YtdhnjecbdclmaaaKNFourDM
import Derived.Test.YtdhnjecbdclmaaaKNWallManyM
import Derived.Test.YtdhnjecbdclmaaaKNPlanTight
namespace Go.Proofs.Ytdhnjecbdclmaaa
open Go.RowKit Go.Shelf Go.Proofs.YtdhnjecbdclmaaaW.PrintWords Go.Proofs.YtdhnjecbdclmaaaW.PrintMore
set_option linter.unusedVariables false
set_option linter.unusedSimpArgs false
theorem plain_zero {p : List ByteArray} (h : planG p = true) : plainP p = true ↔ allPts (clP p) (wdP p) 4 1 (p.length - 1) = 0 := by
  unfold plainP pointsP
  rw [h, Bool.true_and, beq_iff_eq]
  omega
theorem plain_turn {p q : List ByteArray} (hp : planG p = true) (hq : Planned (fun r c => clP p (p.length - 1 - c) r) (wdP p) p.length q) (hc : plainP p = true) : plainP q = true := by
  rw [plain_zero hq.plan, hq.high, hq.wide]
  rw [plain_zero hp] at hc
  rw [pts_turn (cl := clP p) (cl' := clP q) (h := p.length) (wd := wdP p) 4 hq.same]
  exact hc
theorem plain_tight {p q : List ByteArray} (hp : planG p = true) (hq : Planned (tightV (clP p) p.length (wdP p)) (tightH (clP p) p.length (wdP p)) (tightW (clP p) p.length (wdP p)) q) (hc : plainP p = true) : plainP q = true := by
  rw [plain_zero hq.plan, hq.high, hq.wide]
  rw [plain_zero hp] at hc
  exact tight_pts (planFlat hp) hq.same hc
set_option maxRecDepth 100000 in
set_option maxHeartbeats 4000000 in
theorem walk_FnPlain (a0 : Option Addr) (len0 cap0 : Nat) (z0 : List Int) (w : World) (w0 : CodeRow w a0 len0 cap0 z0) (y0 : len0 * 1 ≤ 140737488351232) :
    Calls Try.prog 21 #[.slice a0 len0 cap0] w fun e w' => e = .returned (.bool true) ∧ Below w.heap.size w w' := by
  obtain ⟨bs, hc0⟩ := w0.code
  have HD := DrawWallPlain_any a0 len0 cap0 bs w hc0
  clear hc0 w0
  by_cases hlen : 1048576 < len0
  · go_enter Try.func21, Try.ntmps21
    go_wp2_with fail
    go_ret
    exact ⟨rfl, Below.refl _ _⟩
  go_enter Try.func21, Try.ntmps21
  go_wp2_with fail
  refine HD.mono ?_
  rintro e w1 ⟨q, A, c, rfl, HQ⟩
  have HI := Aside0.mk (fun wx (hb : Below w1.heap.size w1 wx) => wallPlain_any A c q HQ.out.2.1 wx (Kd.C_below HQ.out.2.2.2.1 hb) HQ.out.2.2.1)
  have HS := Aside0.mk (fun wx (hb : Below w1.heap.size w1 wx) => spec_WallPlain.calls A c q (plainP q) wx (Kd.C_below HQ.out.2.2.2.1 hb) HQ.out.2.2.1 (by unfold spec_WallPlain.f; rw [if_pos HQ.out.2.1]))
  have HB := Aside0.mk HQ.out.2.2.2.2
  cases hok : plainP q with
  | true =>
    have hpl : planG q = true := by
      unfold plainP at hok
      exact (Bool.and_eq_true_iff.1 hok).1
    have h0 := (plain_zero hpl).1 hok
    have hsm := walls_law (planFlat hpl)
    have hfew := (planFlat hpl).few
    have v3 : manyP q = ((((upN (clP q) q.length (wdP q) : Nat) : Int), ((lvN (clP q) q.length (wdP q) : Nat) : Int)), true) := by unfold manyP; rw [if_pos hpl]
    have hr : roomsP q = (((boxesP q).length : Int), true) := by unfold roomsP; rw [hpl]; rfl
    have HT := Aside0.mk (fun wx (hb : Below w1.heap.size w1 wx) => planTurn_is A c q HQ.out.2.1 hpl wx (Kd.C_below HQ.out.2.2.2.1 hb) HQ.out.2.2.1)
    have HG := Aside0.mk (fun wx (hb : Below w1.heap.size w1 wx) => planTight_is A c q HQ.out.2.1 hpl wx (Kd.C_below HQ.out.2.2.2.1 hb) HQ.out.2.2.1)
    have HM := Aside0.mk (fun wx (hb : Below w1.heap.size w1 wx) => wallMany_any A c q HQ.out.2.1 wx (Kd.C_below HQ.out.2.2.2.1 hb) HQ.out.2.2.1)
    have HR := Aside0.mk (fun wx (hb : Below w1.heap.size w1 wx) => planRooms_any A c q HQ.out.2.1 wx (Kd.C_below HQ.out.2.2.2.1 hb) HQ.out.2.2.1)
    have XT := Aside0.mk (fun (t : List ByteArray) ht => plain_turn hpl (q := t) ht hok)
    have XG := Aside0.mk (fun (t : List ByteArray) ht => plain_tight hpl (q := t) ht hok)
    obtain ⟨u, hu⟩ : ∃ t, upN (clP q) q.length (wdP q) = t := ⟨_, rfl⟩
    obtain ⟨l, hl⟩ : ∃ t, lvN (clP q) q.length (wdP q) = t := ⟨_, rfl⟩
    obtain ⟨m, hm⟩ : ∃ t, (boxesP q).length = t := ⟨_, rfl⟩
    rw [hu, hl, hm, h0] at hsm
    rw [hm] at hfew hr
    rw [hu, hl] at v3
    rw [v3] at HM
    rw [hr] at HR
    rw [hok] at HI HS
    have d1 : (((u : Int) + (l : Int)) == ((m : Int) - 1)) = true := by rw [beq_iff_eq]; omega
    have f1 : u + l ≤ 9 := by omega
    clear hpl hok hr v3 hu hl hm HD h0 hsm
    go_wp2_with fail
    refine (HI.out _ (Below.refl _ _)).mono ?_
    rintro e w2 ⟨rfl, h2⟩
    have H2 := Aside0.mk h2
    clear h2
    go_wp2_with fail
    refine (HS.out _ H2.out).mono ?_
    rintro e w3 ⟨rfl, h3⟩
    have H3 := Aside0.mk (H2.out.trans (h3.mono H2.out.size))
    clear h3
    go_wp2_with fail
    refine (HT.out _ H3.out).mono ?_
    rintro e w4 ⟨t, A4, c4, rfl, HM4⟩
    have H4 := Aside0.mk (H3.out.trans (HM4.out.2.2.2.2.mono H3.out.size))
    have Y4 := Aside0.mk (fun wx (hb : Below w4.heap.size w4 wx) => wallPlain_any A4 c4 t HM4.out.2.1 wx (Kd.C_below HM4.out.2.2.2.1 hb) HM4.out.2.2.1)
    rw [XT.out t HM4.out.1] at Y4
    go_wp2_with fail
    refine (HG.out _ H4.out).mono ?_
    rintro e w5 ⟨g, A5, c5, rfl, HM5⟩
    have H45 := Aside0.mk HM5.out.2.2.2.2
    have H5 := Aside0.mk (H4.out.trans (H45.out.mono H4.out.size))
    have Y5 := Aside0.mk (fun wx (hb : Below w5.heap.size w5 wx) => wallPlain_any A5 c5 g HM5.out.2.1 wx (Kd.C_below HM5.out.2.2.2.1 hb) HM5.out.2.2.1)
    rw [XG.out g HM5.out.1] at Y5
    go_wp2_with fail
    refine (HM.out _ H5.out).mono ?_
    rintro e w6 ⟨rfl, h6⟩
    have H56 := Aside0.mk h6
    have H6 := Aside0.mk (H5.out.trans (H56.out.mono H5.out.size))
    clear h6
    go_wp2_with fail
    refine (HR.out _ H6.out).mono ?_
    rintro e w7 ⟨rfl, h7⟩
    have H57 := Aside0.mk (H56.out.trans (h7.mono H56.out.size))
    have H47 := Aside0.mk (H45.out.trans (H57.out.mono H45.out.size))
    have H7 := Aside0.mk (H6.out.trans (h7.mono H6.out.size))
    clear h7
    go_wp2_with fail
    refine (Y4.out _ H47.out).mono ?_
    rintro e w8 ⟨rfl, h8⟩
    have H58 := Aside0.mk (H57.out.trans (h8.mono H57.out.size))
    have H8 := Aside0.mk (H7.out.trans (h8.mono H7.out.size))
    clear h8
    go_wp2_with fail
    refine (Y5.out _ H58.out).mono ?_
    rintro e w9 ⟨rfl, h9⟩
    have H9 := Aside0.mk (H8.out.trans (h9.mono H8.out.size))
    clear h9
    go_wp2_with fail
    go_ret
    exact ⟨rfl, HB.out.trans (H9.out.mono HB.out.size)⟩
  | false =>
    rw [hok] at HI HS
    clear hok HD
    go_wp2_with fail
    refine (HI.out _ (Below.refl _ _)).mono ?_
    rintro e w2 ⟨rfl, h2⟩
    have H2 := Aside0.mk h2
    clear h2
    go_wp2_with fail
    refine (HS.out _ H2.out).mono ?_
    rintro e w3 ⟨rfl, h3⟩
    have H3 := Aside0.mk (H2.out.trans (h3.mono H2.out.size))
    clear h3
    go_wp2_with fail
    go_ret
    exact ⟨rfl, HB.out.trans (H3.out.mono HB.out.size)⟩
end Go.Proofs.Ytdhnjecbdclmaaa
