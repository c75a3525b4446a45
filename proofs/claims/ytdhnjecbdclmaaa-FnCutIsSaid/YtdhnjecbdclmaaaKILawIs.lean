/- The law FnCutIs: its walk. Conditions: none. -/
import Derived.Test.YtdhnjecbdclmaaaKICodeRowM
import Derived.Test.YtdhnjecbdclmaaaKISpecTextM
import Derived.Test.YtdhnjecbdclmaaaKISpecWaysM
import Derived.Test.YtdhnjecbdclmaaaKIFourDM
import Derived.Test.YtdhnjecbdclmaaaKIPlanTight
namespace Go.Proofs.Ytdhnjecbdclmaaa
open Go.RowKit Go.Shelf Go.Proofs.YtdhnjecbdclmaaaW.PrintWords Go.Proofs.YtdhnjecbdclmaaaW.PrintMore
set_option linter.unusedVariables false
set_option linter.unusedSimpArgs false
set_option maxRecDepth 100000 in
set_option maxHeartbeats 4000000 in
theorem walk_FnCutIs (a0 : Option Addr) (len0 cap0 : Nat) (z0 : List Int) (w : World) (w0 : CodeRow w a0 len0 cap0 z0) (y0 : len0 * 1 ≤ 140737488351232) :
    Calls Try.prog 10 #[.slice a0 len0 cap0] w fun e w' => e = .returned (.bool true) ∧ Below w.heap.size w w' := by
  obtain ⟨bs, hc0⟩ := w0.code
  have HD := DrawCutIs_any a0 len0 cap0 bs w hc0
  clear hc0 w0
  by_cases hlen : 1048576 < len0
  · go_enter Try.func10, Try.ntmps10
    go_wp2_with fail
    go_ret
    exact ⟨rfl, Below.refl _ _⟩
  go_enter Try.func10, Try.ntmps10
  go_wp2_with fail
  refine HD.mono ?_
  rintro e w1 ⟨q, A, c, rfl, HQ⟩
  have HI := Aside0.mk (fun wx (hb : Below w1.heap.size w1 wx) => cutIs_any A c q HQ.out.2.1 wx (Kd.C_below HQ.out.2.2.2.1 hb) HQ.out.2.2.1)
  have HS := Aside0.mk (fun wx (hb : Below w1.heap.size w1 wx) => spec_CutIs.calls A c q (cutTextP q).2 wx (Kd.C_below HQ.out.2.2.2.1 hb) HQ.out.2.2.1 (by unfold spec_CutIs.f; rw [if_pos HQ.out.2.1]; rfl))
  have HB := Aside0.mk HQ.out.2.2.2.2
  cases hok : (cutTextP q).2 with
  | true =>
    have hpl : planG q = true := by
      cases h : planG q with
      | true => rfl
      | false => unfold cutTextP at hok; rw [h] at hok; cases hok
    have hw := (planFlat hpl).wide.1
    have hh := (planFlat hpl).high.1
    have HT := Aside0.mk (fun wx (hb : Below w1.heap.size w1 wx) => planTurn_is A c q HQ.out.2.1 hpl wx (Kd.C_below HQ.out.2.2.2.1 hb) HQ.out.2.2.1)
    have HF := Aside0.mk (fun wx (hb : Below w1.heap.size w1 wx) => planFlip_is A c q HQ.out.2.1 hpl wx (Kd.C_below HQ.out.2.2.2.1 hb) HQ.out.2.2.1)
    have HG := Aside0.mk (fun wx (hb : Below w1.heap.size w1 wx) => planTight_is A c q HQ.out.2.1 hpl wx (Kd.C_below HQ.out.2.2.2.1 hb) HQ.out.2.2.1)
    have HP := Aside0.mk (fun wx (hb : Below w1.heap.size w1 wx) => planBeside_any A c q HQ.out.2.1 hpl wx (Kd.C_below HQ.out.2.2.2.1 hb) HQ.out.2.2.1)
    have XT := Aside0.mk (fun (t : List ByteArray) ht => (cut_turn hpl (q := t) ht).trans hok)
    have XF := Aside0.mk (fun (t : List ByteArray) ht => (cut_flip hpl (q := t) ht).trans hok)
    have XG := Aside0.mk (fun (t : List ByteArray) ht => cut_tight hpl (q := t) ht hok)
    have XP := Aside0.mk (fun (t : List ByteArray) ht => cut_beside hpl (q := t) ht hok)
    have HPL := Aside0.mk hpl
    have PV := Aside0.mk (planV_any (besV (clP q) (boxesP q).length (wdP q) (clP q)) hh (show 1 ≤ wdP q + wdP q by omega))
    rw [hok] at HI HS
    clear hpl hok HD hw hh
    go_wp2_with fail
    refine (HI.out _ (Below.refl _ _)).mono ?_
    rintro e w2 ⟨rfl, h2⟩
    have H2 := Aside0.mk h2
    clear h2
    go_wp2_with fail
    refine (HS.out _ H2.out).mono ?_
    rintro e w3 ⟨rfl, h3⟩
    have H3 := Aside0.mk (H2.out.trans (h3.mono H2.out.size))
    clear h3
    go_wp2_with fail
    refine (HT.out _ H3.out).mono ?_
    rintro e w4 ⟨t, A4, c4, rfl, HM4⟩
    have H4 := Aside0.mk (H3.out.trans (HM4.out.2.2.2.2.mono H3.out.size))
    have Y4 := Aside0.mk (fun wx (hb : Below w4.heap.size w4 wx) => cutIs_any A4 c4 t HM4.out.2.1 wx (Kd.C_below HM4.out.2.2.2.1 hb) HM4.out.2.2.1)
    rw [XT.out t HM4.out.1] at Y4
    go_wp2_with fail
    refine (HF.out _ H4.out).mono ?_
    rintro e w5 ⟨f, A5, c5, rfl, HM5⟩
    have H45 := Aside0.mk HM5.out.2.2.2.2
    have H5 := Aside0.mk (H4.out.trans (H45.out.mono H4.out.size))
    have Y5 := Aside0.mk (fun wx (hb : Below w5.heap.size w5 wx) => cutIs_any A5 c5 f HM5.out.2.1 wx (Kd.C_below HM5.out.2.2.2.1 hb) HM5.out.2.2.1)
    rw [XF.out f HM5.out.1] at Y5
    go_wp2_with fail
    refine (HG.out _ H5.out).mono ?_
    rintro e w6 ⟨g, A6, c6, rfl, HM6⟩
    have H56 := Aside0.mk HM6.out.2.2.2.2
    have H6 := Aside0.mk (H5.out.trans (H56.out.mono H5.out.size))
    have Y6 := Aside0.mk (fun wx (hb : Below w6.heap.size w6 wx) => cutIs_any A6 c6 g HM6.out.2.1 wx (Kd.C_below HM6.out.2.2.2.1 hb) HM6.out.2.2.1)
    rw [XG.out g HM6.out.1] at Y6
    go_wp2_with fail
    refine (HP.out _ H6.out).mono ?_
    rintro e w7 ⟨⟨A7, c7, ⟨V, b⟩, hv, rfl, hc7, hC7⟩, hb7⟩
    have HC7 := Aside0.mk (And.intro hc7 hC7)
    have H67 := Aside0.mk hb7
    have H7 := Aside0.mk (H6.out.trans (H67.out.mono H6.out.size))
    have H57 := Aside0.mk (H56.out.trans (H67.out.mono H56.out.size))
    have H47 := Aside0.mk (H45.out.trans (H57.out.mono H45.out.size))
    clear HT HF HG HP HI HS
    rw [if_pos HPL.out] at hv
    have hv2 : (V = [] ∧ b = false) ∨ (b = true ∧ Planned (besV (clP q) (boxesP q).length (wdP q) (clP q)) q.length (wdP q + wdP q) V) := by
      rcases PV.out with h | ⟨d, h, hd⟩
      · unfold besideR at hv
        rw [h] at hv
        injection hv with e1 e2
        exact .inl ⟨e1, e2⟩
      · unfold besideR at hv
        rw [h] at hv
        injection hv with e1 e2
        subst e1
        exact .inr ⟨e2, hd⟩
    clear hc7 hC7 hb7 hv
    rcases hv2 with ⟨rfl, rfl⟩ | ⟨rfl, hd⟩
    · dsimp only
      go_wp2_with fail
      refine (Y4.out _ H47.out).mono ?_
      rintro e w8 ⟨rfl, h8⟩
      have H58 := Aside0.mk (H57.out.trans (h8.mono H57.out.size))
      have H68 := Aside0.mk (H67.out.trans (h8.mono H67.out.size))
      have H8 := Aside0.mk (H7.out.trans (h8.mono H7.out.size))
      have HX8 := Aside0.mk h8
      clear h8
      go_wp2_with fail
      refine (Y5.out _ H58.out).mono ?_
      rintro e w9 ⟨rfl, h9⟩
      have H69 := Aside0.mk (H68.out.trans (h9.mono H68.out.size))
      have H9 := Aside0.mk (H8.out.trans (h9.mono H8.out.size))
      have HX9 := Aside0.mk (HX8.out.trans (h9.mono HX8.out.size))
      clear h9
      go_wp2_with fail
      refine (Y6.out _ H69.out).mono ?_
      rintro e w10 ⟨rfl, h10⟩
      have H10 := Aside0.mk (H9.out.trans (h10.mono H9.out.size))
      have HX10 := Aside0.mk (HX9.out.trans (h10.mono HX9.out.size))
      clear h10
      go_wp2_with fail
      go_ret
      exact ⟨rfl, HB.out.trans (H10.out.mono HB.out.size)⟩
    · have HSP := Aside0.mk (plan_small hd.plan)
      have Y7 := Aside0.mk (fun wx (hb : Below w7.heap.size w7 wx) => cutIs_any A7 c7 V HSP.out wx (Kd.C_below HC7.out.2 hb) HC7.out.1)
      rw [XP.out V hd] at Y7
      clear hd
      dsimp only
      go_wp2_with fail
      refine (Y4.out _ H47.out).mono ?_
      rintro e w8 ⟨rfl, h8⟩
      have H58 := Aside0.mk (H57.out.trans (h8.mono H57.out.size))
      have H68 := Aside0.mk (H67.out.trans (h8.mono H67.out.size))
      have H8 := Aside0.mk (H7.out.trans (h8.mono H7.out.size))
      have HX8 := Aside0.mk h8
      clear h8
      go_wp2_with fail
      refine (Y5.out _ H58.out).mono ?_
      rintro e w9 ⟨rfl, h9⟩
      have H69 := Aside0.mk (H68.out.trans (h9.mono H68.out.size))
      have H9 := Aside0.mk (H8.out.trans (h9.mono H8.out.size))
      have HX9 := Aside0.mk (HX8.out.trans (h9.mono HX8.out.size))
      clear h9
      go_wp2_with fail
      refine (Y6.out _ H69.out).mono ?_
      rintro e w10 ⟨rfl, h10⟩
      have H10 := Aside0.mk (H9.out.trans (h10.mono H9.out.size))
      have HX10 := Aside0.mk (HX9.out.trans (h10.mono HX9.out.size))
      clear h10
      go_wp2_with fail
      refine (Y7.out _ HX10.out).mono ?_
      rintro e w11 ⟨rfl, h11⟩
      have H11 := Aside0.mk (H10.out.trans (h11.mono H10.out.size))
      clear h11
      go_wp2_with fail
      go_ret
      exact ⟨rfl, HB.out.trans (H11.out.mono HB.out.size)⟩
  | false =>
    rw [hok] at HI HS
    clear hok HD
    go_wp2_with fail
    refine (HI.out _ (Below.refl _ _)).mono ?_
    rintro e w2 ⟨rfl, h2⟩
    have H2 := Aside0.mk h2
    clear h2
    go_wp2_with fail
    refine (HS.out _ H2.out).mono ?_
    rintro e w3 ⟨rfl, h3⟩
    have H3 := Aside0.mk (H2.out.trans (h3.mono H2.out.size))
    clear h3
    go_wp2_with fail
    go_ret
    exact ⟨rfl, HB.out.trans (H3.out.mono HB.out.size)⟩
end Go.Proofs.Ytdhnjecbdclmaaa
