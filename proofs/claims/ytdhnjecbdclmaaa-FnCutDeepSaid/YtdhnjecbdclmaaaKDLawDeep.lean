/- The law FnCutDeep: its draw and its walk. Conditions: none. (Written beside seat r2, not built: its functions are in r3.) -/
import Derived.Test.YtdhnjecbdclmaaaKDCodeRowM
import Derived.Test.YtdhnjecbdclmaaaKDSpecWaysM
import Derived.Test.YtdhnjecbdclmaaaKDTurnedM
import Derived.Test.YtdhnjecbdclmaaaKDDeepF
namespace Go.Proofs.Ytdhnjecbdclmaaa
open Go.RowKit Go.Shelf Go.Proofs.YtdhnjecbdclmaaaW.PrintWords Go.Proofs.YtdhnjecbdclmaaaW.PrintMore
set_option linter.unusedVariables false
set_option linter.unusedSimpArgs false
theorem pow_deep (x : Nat) (h : x ≤ 9) : wrap64 (2 ^ x) = ((2 ^ x : Nat) : Int) := by
  have h1 : (2 : Int) ^ x = ((2 ^ x : Nat) : Int) := by push_cast; rfl
  have h2 : 2 ^ x ≤ 2 ^ 9 := Nat.pow_le_pow_right (by omega) h
  rw [h1]
  generalize 2 ^ x = y at h2
  unfold wrap64
  omega
theorem shl_deep (x : Nat) (h : x ≤ 9) : shl .i64 1 (x : Int) = ((2 ^ x : Nat) : Int) := by
  have : ∀ n : Fin 10, shl .i64 1 ((n.val : Nat) : Int) = ((2 ^ n.val : Nat) : Int) := by decide
  exact this ⟨x, by omega⟩
set_option maxRecDepth 100000 in
set_option maxHeartbeats 4000000 in
theorem walk_FnCutDeep (a0 : Option Addr) (len0 cap0 : Nat) (z0 : List Int) (w : World) (w0 : CodeRow w a0 len0 cap0 z0) (y0 : len0 * 1 ≤ 140737488351232) :
    Calls Try.prog 9 #[.slice a0 len0 cap0] w fun e w' => e = .returned (.bool true) ∧ Below w.heap.size w w' := by
  obtain ⟨bs, hc0⟩ := w0.code
  have HD := DrawCutDeep_any a0 len0 cap0 bs w hc0
  clear hc0 w0
  by_cases hlen : 1048576 < len0
  · go_enter Try.func9, Try.ntmps9
    go_wp2_with fail
    go_ret
    exact ⟨rfl, Below.refl _ _⟩
  go_enter Try.func9, Try.ntmps9
  go_wp2_with fail
  refine HD.mono ?_
  rintro e w1 ⟨q, A, c, rfl, HQ⟩
  have HI := Aside0.mk (fun wx (hb : Below w1.heap.size w1 wx) => impl_CutDeep.calls A c q (cutDeepP q).1 (cutDeepP q).2 wx (Kd.C_below HQ.out.2.2.2.1 hb) HQ.out.2.2.1 (by unfold impl_CutDeep.f; rw [if_pos HQ.out.2.1]))
  have HS := Aside0.mk (fun wx (hb : Below w1.heap.size w1 wx) => spec_CutDeep.calls A c q (cutDeepP q).1 (cutDeepP q).2 wx (Kd.C_below HQ.out.2.2.2.1 hb) HQ.out.2.2.1 (by unfold spec_CutDeep.f; rw [if_pos HQ.out.2.1]))
  have HR := Aside0.mk (fun wx (hb : Below w1.heap.size w1 wx) => planRooms_any A c q HQ.out.2.1 wx (Kd.C_below HQ.out.2.2.2.1 hb) HQ.out.2.2.1)
  have HB := Aside0.mk HQ.out.2.2.2.2
  by_cases hok : (cutDeepP q).2 = true
  · have hpl : planG q = true := by
      cases h : planG q with
      | true => rfl
      | false => unfold cutDeepP at hok; rw [h] at hok; cases hok
    obtain ⟨d, hd⟩ : ∃ d, deepP q = some d := by
      unfold cutDeepP at hok
      rw [if_pos hpl] at hok
      exact Option.isSome_iff_exists.1 hok
    have hv : cutDeepP q = ((d : Int), true) := by unfold cutDeepP; rw [if_pos hpl, hd]; rfl
    have hr : roomsP q = (((boxesP q).length : Int), true) := by unfold roomsP; rw [hpl]; rfl
    obtain ⟨b1, b2⟩ := deepP_bounds hpl hd
    have hfew := (planFlat hpl).few
    have HT := Aside0.mk (fun wx (hb : Below w1.heap.size w1 wx) => planTurn_is A c q HQ.out.2.1 hpl wx (Kd.C_below HQ.out.2.2.2.1 hb) HQ.out.2.2.1)
    have HX := Aside0.mk (fun (t : List ByteArray) (ht : Planned (fun r c => clP q (q.length - 1 - c) r) (wdP q) q.length t) => show cutDeepP t = ((d : Int), true) by unfold cutDeepP; rw [if_pos ht.plan, deepP_turn hpl ht, hd]; rfl)
    obtain ⟨m, hm⟩ : ∃ m, (boxesP q).length = m := ⟨_, rfl⟩
    rw [hm] at hr b1 b2 hfew
    rw [hv] at HI HS
    rw [hr] at HR
    have hsh := shl_deep d (by omega)
    have c1 : (d : Int) < (m : Int) := by omega
    have c2 : (m : Int) ≤ wrap64 (2 ^ d) := by rw [pow_deep d (by omega)]; omega
    clear hok hpl hd hv hr hm HD
    go_wp2_with fail
    refine (HI.out _ (Below.refl _ _)).mono ?_
    rintro e w2 ⟨rfl, h2⟩
    have H2 := Aside0.mk h2
    clear h2
    go_wp2_with fail
    refine (HS.out _ H2.out).mono ?_
    rintro e w3 ⟨rfl, h3⟩
    have H3 := Aside0.mk (H2.out.trans (h3.mono H2.out.size))
    clear h3
    go_wp2_with fail
    refine (HR.out _ H3.out).mono ?_
    rintro e w4 ⟨rfl, h4⟩
    have H4 := Aside0.mk (H3.out.trans (h4.mono H3.out.size))
    clear h4
    go_wp2_with fail
    refine (HT.out _ H4.out).mono ?_
    rintro e w5 ⟨t, A5, c5, rfl, HM⟩
    have H5 := Aside0.mk (H4.out.trans (HM.out.2.2.2.2.mono H4.out.size))
    have HIT := Aside0.mk (impl_CutDeep.calls A5 c5 t (d : Int) true w5 HM.out.2.2.2.1 HM.out.2.2.1 (by unfold impl_CutDeep.f; rw [if_pos HM.out.2.1, HX.out t HM.out.1]))
    clear HT HX
    go_wp2_with fail
    refine HIT.out.mono ?_
    rintro e w6 ⟨rfl, h6⟩
    have H6 := Aside0.mk (H5.out.trans (h6.mono H5.out.size))
    clear h6
    go_wp2_with fail
    go_ret
    exact ⟨rfl, HB.out.trans (H6.out.mono HB.out.size)⟩
  · have hokf : (cutDeepP q).2 = false := by simpa using hok
    rw [hokf] at HI HS
    obtain ⟨T, hTT⟩ : ∃ T : Int, (cutDeepP q).1 = T := ⟨_, rfl⟩
    rw [hTT] at HI HS
    clear hok hokf hTT HR HD
    go_wp2_with fail
    refine (HI.out _ (Below.refl _ _)).mono ?_
    rintro e w2 ⟨rfl, h2⟩
    have H2 := Aside0.mk h2
    clear h2
    go_wp2_with fail
    refine (HS.out _ H2.out).mono ?_
    rintro e w3 ⟨rfl, h3⟩
    have H3 := Aside0.mk (H2.out.trans (h3.mono H2.out.size))
    clear h3
    go_wp2_with fail
    go_ret
    exact ⟨rfl, HB.out.trans (H3.out.mono HB.out.size)⟩
end Go.Proofs.Ytdhnjecbdclmaaa
