/- The law FnCutStuck: its walk. Conditions: none. -/
import Derived.Test.YtdhnjecbdclmaaaKSLawStuck
namespace Go.Proofs.Ytdhnjecbdclmaaa
open Go.RowKit Go.Shelf Go.Proofs.YtdhnjecbdclmaaaW.PrintWords Go.Proofs.YtdhnjecbdclmaaaW.PrintMore
set_option linter.unusedVariables false
set_option linter.unusedSimpArgs false
theorem sameI_l (l : List Int) (hl : l.length ≤ 1000) : ∀ d i, i + d = l.length → Ev (fun k => L6.laws_sameInts.l0 k l l (i : Int)) true := by
  intro d
  induction d with
  | zero =>
    intro i hi
    refine Ev.now fun k => ?_
    unfold L6.laws_sameInts.l0
    rw [if_neg (by omega)]
  | succ d ih =>
    intro i hi
    have hw1 : wrap64 ((i : Int) + 1) = ((i + 1 : Nat) : Int) := by unfold wrap64; omega
    refine (ih (i + 1) (by omega)).step fun k => ?_
    show L6.laws_sameInts.l0 (k + 1) l l _ = _
    conv => lhs; unfold L6.laws_sameInts.l0
    rw [if_pos (by omega), if_pos (by omega), if_pos (by omega), if_pos rfl, hw1]
theorem sameI_f (l : List Int) (hl : l.length ≤ 1000) : Ev (fun k => L6.laws_sameInts.f k l l) true := by
  refine (sameI_l l hl l.length 0 (by omega)).same fun k => ?_
  unfold L6.laws_sameInts.f
  rw [if_pos rfl]; rfl
theorem sameI_any (V : List Int) (hl : V.length ≤ 1000) (A1 : Option Addr) (c1 : Nat) (A2 : Option Addr) (c2 : Nat) (W : World) (h1 : Kd.C (Kd.int .i64) W A1 V.length V) (h2 : V.length ≤ c1) (h3 : Kd.C (Kd.int .i64) W A2 V.length V) (h4 : V.length ≤ c2) :
    Calls Try.prog 42 #[.slice A1 V.length c1, .slice A2 V.length c2] W fun e w' => e = .returned (.bool true) ∧ Below W.heap.size W w' := by
  obtain ⟨k, hk⟩ := (sameI_f V hl).ex
  exact (L6.laws_sameInts.calls k A1 c1 V A2 c2 V true W h1 h2 h3 h4 hk).mono fun e w' ⟨he, n, hw⟩ => ⟨he, by rw [hw]; exact pw_below_drewN (Below.refl _ _) _⟩
set_option maxRecDepth 100000 in
set_option maxHeartbeats 4000000 in
theorem walk_FnCutStuck (a0 : Option Addr) (len0 cap0 : Nat) (z0 : List Int) (w : World) (w0 : CodeRow w a0 len0 cap0 z0) (y0 : len0 * 1 ≤ 140737488351232) :
    Calls Try.prog 8 #[.slice a0 len0 cap0] w fun e w' => e = .returned (.bool true) ∧ Below w.heap.size w w' := by
  obtain ⟨bs, hc0⟩ := w0.code
  have HD := DrawCutStuck_any a0 len0 cap0 bs w hc0
  clear hc0 w0
  by_cases hlen : 1048576 < len0
  · go_enter Try.func8, Try.ntmps8
    go_wp2_with fail
    go_ret
    exact ⟨rfl, Below.refl _ _⟩
  go_enter Try.func8, Try.ntmps8
  go_wp2_with fail
  refine HD.mono ?_
  rintro e w1 ⟨q, A, c, rfl, HQ⟩
  have HSM := Aside0.mk (plan_small HQ.out.1)
  have HI := Aside0.mk (fun wx (hb : Below w1.heap.size w1 wx) => impl_CutStuck.calls A c q (cutStuckV q).1 (cutStuckV q).2 wx (Kd.C_below HQ.out.2.2.1 hb) HQ.out.2.1 (by unfold impl_CutStuck.f; rw [if_pos HSM.out]))
  have HS := Aside0.mk (fun wx (hb : Below w1.heap.size w1 wx) => spec_CutStuck.calls A c q (cutStuckV q).1 (cutStuckV q).2 wx (Kd.C_below HQ.out.2.2.1 hb) HQ.out.2.1 (by unfold spec_CutStuck.f; rw [if_pos HSM.out]))
  have HC := Aside0.mk (fun wx (hb : Below w1.heap.size w1 wx) => impl_CutIs.calls A c q (cutIsP q) wx (Kd.C_below HQ.out.2.2.1 hb) HQ.out.2.1 (by unfold impl_CutIs.f; rw [if_pos HSM.out]))
  have HB := Aside0.mk HQ.out.2.2.2
  have hvl := cutStuckV_len q
  have h5 : (cutStuckV q).2 = true → cutIsP q = false ∧ 5 ≤ (cutStuckV q).1.length := fun h => stuck_five HQ.out.1 (of_decide_eq_true h)
  obtain ⟨n, hn⟩ : ∃ n, q.length = n := ⟨_, rfl⟩
  obtain ⟨V, hV⟩ : ∃ V, (cutStuckV q).1 = V := ⟨_, rfl⟩
  obtain ⟨b, hb⟩ : ∃ b, (cutStuckV q).2 = b := ⟨_, rfl⟩
  obtain ⟨d, hd⟩ : ∃ b, cutIsP q = b := ⟨_, rfl⟩
  rw [hV, hb] at HI HS
  rw [hV, hb, hd] at h5
  rw [hV] at hvl
  rw [hd] at HC
  rw [hn] at HI HS HC ⊢
  have HSI := Aside0.mk (fun A1 c1 A2 c2 W h1 h2 h3 h4 => sameI_any V hvl A1 c1 A2 c2 W h1 h2 h3 h4)
  obtain ⟨m, hm⟩ : ∃ m, V.length = m := ⟨_, rfl⟩
  have HM := Aside0.mk hm
  rw [hm] at h5 hvl
  have H5 := Aside0.mk h5
  clear HD hn hV hb hd h5 hm HQ
  cases b with
  | true =>
    obtain ⟨hdf, hm5⟩ := H5.out rfl
    subst hdf
    have n5 : (5 : Int) ≤ (m : Int) := by omega
    clear H5
    go_wp2_with fail
    refine (HI.out _ (Below.refl _ _)).mono ?_
    rintro e w2 ⟨v2, rfl, ho2, h2⟩
    obtain ⟨A2, c2, rfl⟩ := Kd.R_slice ho2
    have K2 := Aside0.mk (Kd.R_reads' ho2)
    have H2 := Aside0.mk h2
    clear h2 ho2
    go_wp2_with fail
    refine (HS.out _ H2.out).mono ?_
    rintro e w3 ⟨v3, rfl, ho3, h3⟩
    obtain ⟨A3, c3, rfl⟩ := Kd.R_slice ho3
    have K3 := Aside0.mk (Kd.R_reads' ho3)
    have H3 := Aside0.mk (H2.out.trans (h3.mono H2.out.size))
    have HX := Aside0.mk (HSI.out A2 c2 A3 c3 w3 (Kd.C_below K2.out.2.2 h3) K2.out.2.1 K3.out.2.2 K3.out.2.1)
    clear h3 ho3
    rw [HM.out] at HX ⊢
    go_wp2_with fail
    refine HX.out.mono ?_
    rintro e w4 ⟨rfl, h4⟩
    have H4 := Aside0.mk (H3.out.trans (h4.mono H3.out.size))
    clear h4
    go_wp2_with fail
    refine (HC.out _ H4.out).mono ?_
    rintro e w5 ⟨rfl, h5⟩
    have H5 := Aside0.mk (H4.out.trans (h5.mono H4.out.size))
    clear h5
    go_wp2_with fail
    go_ret
    exact ⟨rfl, HB.out.trans (H5.out.mono HB.out.size)⟩
  | false =>
    clear H5
    go_wp2_with fail
    refine (HI.out _ (Below.refl _ _)).mono ?_
    rintro e w2 ⟨v2, rfl, ho2, h2⟩
    obtain ⟨A2, c2, rfl⟩ := Kd.R_slice ho2
    have K2 := Aside0.mk (Kd.R_reads' ho2)
    have H2 := Aside0.mk h2
    clear h2 ho2
    go_wp2_with fail
    refine (HS.out _ H2.out).mono ?_
    rintro e w3 ⟨v3, rfl, ho3, h3⟩
    obtain ⟨A3, c3, rfl⟩ := Kd.R_slice ho3
    have K3 := Aside0.mk (Kd.R_reads' ho3)
    have H3 := Aside0.mk (H2.out.trans (h3.mono H2.out.size))
    have HX : Aside0 (∀ W, Below w3.heap.size w3 W → _) := ⟨fun W hW => HSI.out A2 c2 A3 c3 W (Kd.C_below (Kd.C_below K2.out.2.2 h3) hW) K2.out.2.1 (Kd.C_below K3.out.2.2 hW) K3.out.2.1⟩
    clear h3 ho3
    rw [HM.out] at HX ⊢
    go_wp2_with fail
    refine (HX.out _ (Below.refl _ _)).mono ?_
    rintro e w4 ⟨rfl, h4⟩
    have HB4 := Aside0.mk h4
    have H4 := Aside0.mk (H3.out.trans (h4.mono H3.out.size))
    clear h4
    go_wp2_with fail
    refine (HX.out _ HB4.out).mono ?_
    rintro e w5 ⟨rfl, h5⟩
    have H5 := Aside0.mk (H4.out.trans (h5.mono H4.out.size))
    clear h5
    go_wp2_with fail
    go_ret
    exact ⟨rfl, HB.out.trans (H5.out.mono HB.out.size)⟩
end Go.Proofs.Ytdhnjecbdclmaaa
