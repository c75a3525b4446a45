/- Laws over drawn plans: the laws' own walks. Conditions: none. -/
import Derived.Test.YtiehiockjlhbcaaKDrawOnesM
namespace Go.Proofs.Ytiehiockjlhbcaa
open Go.RowKit Go.Shelf Go.Proofs.YtiehiockjlhbcaaW.PrintWords Go.Proofs.YtiehiockjlhbcaaW.PrintMore
set_option linter.unusedVariables false
set_option linter.unusedSimpArgs false

def CodeRow (w : World) (a0 : Option Addr) (len0 cap0 : Nat) (z0 : List Int) : Prop := (a0 = none ∧ len0 = 0 ∧ cap0 = 0 ∧ z0 = []) ∨ ∃ x, a0 = some x ∧ len0 ≤ cap0 ∧ cap0 ≤ maxLen ∧ z0.length = cap0 ∧ (∀ i, i < z0.length → w.cell? (x.add i) = some (.int .u8 (z0.getD i 0))) ∧ ∀ n ∈ z0, (Lit.int .u8 n).wf = true
theorem CodeRow.code {w : World} {a0 : Option Addr} {len0 cap0 : Nat} {z0 : List Int} (h : CodeRow w a0 len0 cap0 z0) : ∃ bs, Code0 w a0 len0 cap0 bs := by
  obtain ⟨l0, rfl, hr0, hm0, hw0, hc0⟩ := ReadsInt.ofRowC h
  refine ⟨l0, hc0, Kd.C_of_reads (d := (0 : Int)) (h1 := fun _ => rfl) hr0, fun x hx => ?_⟩
  have := hw0 x hx
  unfold Lit.wf at this
  rw [Bool.and_eq_true, decide_eq_true_eq, decide_eq_true_eq] at this
  exact this
set_option maxRecDepth 100000 in
set_option maxHeartbeats 4000000 in
theorem walk_FnProofAll (a0 : Option Addr) (len0 cap0 : Nat) (z0 : List Int) (w : World) (w0 : CodeRow w a0 len0 cap0 z0) (y0 : len0 * 1 ≤ 140737488351232) :
    Calls Try.prog 6 #[.slice a0 len0 cap0] w fun e w' => e = .returned (.bool true) ∧ Below w.heap.size w w' := by
  obtain ⟨bs, hc0⟩ := w0.code
  have HD := DrawPlanRooms_any a0 len0 cap0 bs w hc0
  clear hc0 w0
  by_cases hlen : 1048576 < len0
  · go_enter Try.func6, Try.ntmps6
    go_wp2_with fail
    go_ret
    exact ⟨rfl, Below.refl _ _⟩
  go_enter Try.func6, Try.ntmps6
  go_wp2_with fail
  refine HD.mono ?_
  rintro e w1 ⟨q, A, c, rfl, HQ⟩
  have HI := Aside0.mk (fun wx (hb : Below w1.heap.size w1 wx) => planRooms_any A c q HQ.out.2.1 wx (Kd.C_below HQ.out.2.2.2.1 hb) HQ.out.2.2.1)
  have HS := Aside0.mk (fun wx (hb : Below w1.heap.size w1 wx) => specPlanRooms_any A c q HQ.out.2.1 wx (Kd.C_below HQ.out.2.2.2.1 hb) HQ.out.2.2.1)
  have HP := Aside0.mk (fun wx (hb : Below w1.heap.size w1 wx) => proofCut_any A c q HQ.out.2.1 wx (Kd.C_below HQ.out.2.2.2.1 hb) HQ.out.2.2.1)
  have HB := Aside0.mk HQ.out.2.2.2.2
  obtain ⟨n, hn⟩ : ∃ n, q.length = n := ⟨_, rfl⟩
  rw [hn] at HI HS HP
  rw [hn]
  clear HD hn
  cases hpl : planG q with
  | false =>
    have hv : roomsP q = (0, false) := by unfold roomsP; rw [hpl]; rfl
    rw [hv] at HI HS
    clear hv hpl HQ
    go_wp2_with fail
    refine (HI.out _ (Below.refl _ _)).mono ?_
    rintro e w2 ⟨rfl, h2⟩
    have H2 := Aside0.mk h2
    clear h2
    go_wp2_with fail
    refine (HS.out _ H2.out).mono ?_
    rintro e w3 ⟨rfl, h3⟩
    have H3 := Aside0.mk (H2.out.trans (h3.mono H2.out.size))
    clear h3
    go_wp2_with fail
    go_ret
    exact ⟨rfl, HB.out.trans (H3.out.mono HB.out.size)⟩
  | true =>
    have hv : roomsP q = (((boxesP q).length : Int), true) := by unfold roomsP; rw [hpl]; rfl
    have hv2 : (proofCutP q).2 = true := by
      unfold proofCutP
      rw [if_pos hpl]
      split <;> rfl
    rw [hv] at HI HS
    rw [hv2] at HP
    clear hv hpl hv2 HQ
    go_wp2_with fail
    refine (HI.out _ (Below.refl _ _)).mono ?_
    rintro e w2 ⟨rfl, h2⟩
    have H2 := Aside0.mk h2
    clear h2
    go_wp2_with fail
    refine (HS.out _ H2.out).mono ?_
    rintro e w3 ⟨rfl, h3⟩
    have H3 := Aside0.mk (H2.out.trans (h3.mono H2.out.size))
    clear h3
    go_wp2_with fail
    refine (HP.out _ H3.out).mono ?_
    rintro e w4 ⟨rfl, h4⟩
    have H4 := Aside0.mk (H3.out.trans (h4.mono H3.out.size))
    clear h4
    go_wp2_with fail
    go_ret
    exact ⟨rfl, HB.out.trans (H4.out.mono HB.out.size)⟩
/-- A part without a cut is told just where a plan is not cuttable. -/
theorem stuck_cut {p : List ByteArray} (h : planG p = true) : decide (0 < (cutStuckP p).length) = !(cutTextP p).2 := by
  have f := planFlat h
  have e := stuck_text (clP p) (boxesP p) 13 0 0 p.length (wdP p) (by have := f.high; have := f.wide; omega)
  change (cutTextO p).isSome = !(stuckO p).isSome at e
  have hw := stuck_whole f 13 0 0 p.length (wdP p) f.whole
  change ∀ R, stuckO p = some R → _ at hw
  unfold cutTextP cutStuckP
  rw [if_pos h, if_pos h]
  unfold stuckRooms
  rw [e, Bool.not_not]
  cases hs : stuckO p with
  | none => rfl
  | some R => exact decide_eq_true (list_pos f (hw R hs))
set_option maxRecDepth 100000 in
set_option maxHeartbeats 4000000 in
theorem walk_FnCutOr (a0 : Option Addr) (len0 cap0 : Nat) (z0 : List Int) (w : World) (w0 : CodeRow w a0 len0 cap0 z0) (y0 : len0 * 1 ≤ 140737488351232) :
    Calls Try.prog 8 #[.slice a0 len0 cap0] w fun e w' => e = .returned (.bool true) ∧ Below w.heap.size w w' := by
  obtain ⟨bs, hc0⟩ := w0.code
  have HD := DrawPlanRooms_any a0 len0 cap0 bs w hc0
  clear hc0 w0
  by_cases hlen : 1048576 < len0
  · go_enter Try.func8, Try.ntmps8
    go_wp2_with fail
    go_ret
    exact ⟨rfl, Below.refl _ _⟩
  go_enter Try.func8, Try.ntmps8
  go_wp2_with fail
  refine HD.mono ?_
  rintro e w1 ⟨q, A, c, rfl, HQ⟩
  have HI := Aside0.mk (fun wx (hb : Below w1.heap.size w1 wx) => planRooms_any A c q HQ.out.2.1 wx (Kd.C_below HQ.out.2.2.2.1 hb) HQ.out.2.2.1)
  have HS := Aside0.mk (fun wx (hb : Below w1.heap.size w1 wx) => specPlanRooms_any A c q HQ.out.2.1 wx (Kd.C_below HQ.out.2.2.2.1 hb) HQ.out.2.2.1)
  have HK := Aside0.mk (fun wx (hb : Below w1.heap.size w1 wx) => impl_CutStuck.calls A c q (cutStuckV q).1 (cutStuckV q).2 wx (Kd.C_below HQ.out.2.2.2.1 hb) HQ.out.2.2.1 (by unfold impl_CutStuck.f; rw [if_pos HQ.out.2.1]))
  have HC := Aside0.mk (fun wx (hb : Below w1.heap.size w1 wx) => impl_CutIs.calls A c q (cutIsP q) wx (Kd.C_below HQ.out.2.2.2.1 hb) HQ.out.2.2.1 (by unfold impl_CutIs.f; rw [if_pos HQ.out.2.1]))
  have HB := Aside0.mk HQ.out.2.2.2.2
  obtain ⟨n, hn⟩ : ∃ n, q.length = n := ⟨_, rfl⟩
  rw [hn] at HI HS HK HC
  rw [hn]
  clear HD hn
  cases hpl : planG q with
  | false =>
    have hv : roomsP q = (0, false) := by unfold roomsP; rw [hpl]; rfl
    rw [hv] at HI HS
    clear hv hpl HQ HK HC
    go_wp2_with fail
    refine (HI.out _ (Below.refl _ _)).mono ?_
    rintro e w2 ⟨rfl, h2⟩
    have H2 := Aside0.mk h2
    clear h2
    go_wp2_with fail
    refine (HS.out _ H2.out).mono ?_
    rintro e w3 ⟨rfl, h3⟩
    have H3 := Aside0.mk (H2.out.trans (h3.mono H2.out.size))
    clear h3
    go_wp2_with fail
    go_ret
    exact ⟨rfl, HB.out.trans (H3.out.mono HB.out.size)⟩
  | true =>
    have hv : roomsP q = (((boxesP q).length : Int), true) := by unfold roomsP; rw [hpl]; rfl
    have hk2 := stuck_cut hpl
    change (cutStuckV q).2 = !(cutIsP q) at hk2
    rw [hk2] at HK
    obtain ⟨b, hb⟩ : ∃ b, cutIsP q = b := ⟨_, rfl⟩
    rw [hb] at HK HC
    rw [hv] at HI HS
    clear hv hpl hk2 hb HQ
    go_wp2_with fail
    refine (HI.out _ (Below.refl _ _)).mono ?_
    rintro e w2 ⟨rfl, h2⟩
    have H2 := Aside0.mk h2
    clear h2
    go_wp2_with fail
    refine (HS.out _ H2.out).mono ?_
    rintro e w3 ⟨rfl, h3⟩
    have H3 := Aside0.mk (H2.out.trans (h3.mono H2.out.size))
    clear h3
    go_wp2_with fail
    refine (HK.out _ H3.out).mono ?_
    rintro e w4 ⟨v4, rfl, _, h4⟩
    have H4 := Aside0.mk (H3.out.trans (h4.mono H3.out.size))
    clear h4
    go_wp2_with fail
    refine (HC.out _ H4.out).mono ?_
    rintro e w5 ⟨rfl, h5⟩
    have H5 := Aside0.mk (H4.out.trans (h5.mono H4.out.size))
    clear h5
    cases b with
    | true =>
      go_wp2_with fail
      go_ret
      exact ⟨rfl, HB.out.trans (H5.out.mono HB.out.size)⟩
    | false =>
      go_wp2_with fail
      go_ret
      exact ⟨rfl, HB.out.trans (H5.out.mono HB.out.size)⟩
theorem cutN_take {s : List UInt8} {k : Nat} (hk : k < s.length) : cutN (s.take (k + 1)) = cutN (s.take k) + if s[k] = 118 ∨ s[k] = 104 then 1 else 0 := by
  rw [List.take_succ_eq_append_getElem hk, cutN_app]
  congr 1
  unfold cutN
  by_cases h : s[k] = 118 ∨ s[k] = 104
  · rw [if_pos h, List.filter_cons_of_pos (by simpa using h)]; rfl
  · rw [if_neg h, List.filter_cons_of_neg (by simpa using h)]; rfl
set_option maxRecDepth 100000 in
set_option maxHeartbeats 4000000 in
theorem walk_FnCutText (a0 : Option Addr) (len0 cap0 : Nat) (z0 : List Int) (w : World) (w0 : CodeRow w a0 len0 cap0 z0) (y0 : len0 * 1 ≤ 140737488351232) :
    Calls Try.prog 13 #[.slice a0 len0 cap0] w fun e w' => e = .returned (.bool true) ∧ Below w.heap.size w w' := by
  obtain ⟨bs, hc0⟩ := w0.code
  have HD := DrawCutText_any a0 len0 cap0 bs w hc0
  clear hc0 w0
  by_cases hlen : 1048576 < len0
  · go_enter Try.func13, Try.ntmps13
    go_wp2_with fail
    go_ret
    exact ⟨rfl, Below.refl _ _⟩
  go_enter Try.func13, Try.ntmps13
  go_wp2_with fail
  refine HD.mono ?_
  rintro e w1 ⟨q, A, c, rfl, HQ⟩
  have HI := Aside0.mk (fun wx (hb : Below w1.heap.size w1 wx) => impl_CutText.calls A c q (cutTextP q).1 (cutTextP q).2 wx (Kd.C_below HQ.out.2.2.2.1 hb) HQ.out.2.2.1 (by unfold impl_CutText.f; rw [if_pos HQ.out.2.1]))
  have HS := Aside0.mk (fun wx (hb : Below w1.heap.size w1 wx) => spec_CutText.calls A c q (cutTextP q).1 (cutTextP q).2 wx (Kd.C_below HQ.out.2.2.2.1 hb) HQ.out.2.2.1 (by unfold spec_CutText.f; rw [if_pos HQ.out.2.1]))
  have HR := Aside0.mk (fun wx (hb : Below w1.heap.size w1 wx) => planRooms_any A c q HQ.out.2.1 wx (Kd.C_below HQ.out.2.2.2.1 hb) HQ.out.2.2.1)
  have HB := Aside0.mk HQ.out.2.2.2.2
  obtain ⟨n, hn⟩ : ∃ n, q.length = n := ⟨_, rfl⟩
  rw [hn] at HI HS HR
  rw [hn]
  clear HD hn
  by_cases hok : (cutTextP q).2 = true
  · have hpl : planG q = true := by
      cases h : planG q with
      | true => rfl
      | false => unfold cutTextP at hok; rw [h] at hok; cases hok
    have hv : roomsP q = (((boxesP q).length : Int), true) := by unfold roomsP; rw [hpl]; rfl
    obtain ⟨s, hs⟩ : ∃ s, cutTextO q = some s := by
      unfold cutTextP at hok
      rw [if_pos hpl] at hok
      exact Option.isSome_iff_exists.1 hok
    obtain ⟨l1, l2⟩ := cutText_len hpl hs
    have hfew := (planFlat hpl).few
    have hT : (cutTextP q).1 = ⟨s.toArray⟩ := by unfold cutTextP; rw [if_pos hpl, hs]; rfl
    rw [hok, hT] at HI HS
    rw [hv] at HR
    obtain ⟨m, hm⟩ : ∃ m, (boxesP q).length = m := ⟨_, rfl⟩
    rw [hm] at HR l1 l2 hfew
    obtain ⟨T, hTT⟩ : ∃ T : ByteArray, ⟨s.toArray⟩ = T := ⟨_, rfl⟩
    have hTs : T.size = s.length := by rw [← hTT]; show s.toArray.size = _; simp
    have hTk : ∀ k (h1 : k < T.size) (h2 : k < s.length), T[k] = s[k] := fun k h1 h2 => by
      subst hTT
      show (s.toArray)[k]'_ = _
      simp
    rw [hTT] at HI HS
    have HTK := Aside0.mk hTk
    have HTS := Aside0.mk hTs
    have HL2 := Aside0.mk l2
    have HL1 := Aside0.mk l1
    have hszT : T.size ≤ 20 := by omega
    clear hok hpl hv hs hT hm hTT hTs hTk HQ l1 l2
    go_wp2_with fail
    refine (HI.out _ (Below.refl _ _)).mono ?_
    rintro e w2 ⟨rfl, h2⟩
    have H2 := Aside0.mk h2
    clear h2
    go_wp2_with fail
    refine (HS.out _ H2.out).mono ?_
    rintro e w3 ⟨rfl, h3⟩
    have H3 := Aside0.mk (H2.out.trans (h3.mono H2.out.size))
    clear h3
    go_wp2_with fail
    refine (HR.out _ H3.out).mono ?_
    rintro e w4 ⟨rfl, h4⟩
    have H4 := Aside0.mk (H3.out.trans (h4.mono H3.out.size))
    clear h4
    go_wp2_with fail
    go_loopw [10, 11] (fun v i wr => ∃ k C : Nat, i = .int .i64 k ∧ k ≤ T.size ∧ v = .int .i64 C ∧ C ≤ k ∧ Aside0 (C = cutN (s.take k) ∧ Below w1.heap.size w1 wr)) (fun _ i _ => T.size - (intOf i).toNat)
    case atStart => exact ⟨0, 0, rfl, Nat.zero_le _, rfl, Nat.le_refl _, ⟨rfl, H4.out⟩⟩
    case round =>
      obtain ⟨k, C, rfl, hk, rfl, hCk, HDD⟩ := hrel
      by_cases hlt : k < T.size
      · have hks : k < s.length := by rw [← HTS.out]; exact hlt
        have hstep := Aside0.mk (cutN_take hks)
        have hx := HTK.out k hlt hks
        by_cases c1 : s[k] = 118
        · have e1 : T[k] = 118 := hx.trans c1
          have HST : Aside0 (C + 1 = cutN (s.take (k + 1))) := ⟨by rw [hstep.out, if_pos (.inl c1), HDD.out.1]⟩
          clear hx c1 hstep
          go_wp2_with fail
          refine ⟨⟨k + 1, C + 1, by push_cast; rfl, by omega, by push_cast; rfl, by omega, ⟨HST.out, HDD.out.2⟩⟩, by simp [intOf]; omega⟩
        · by_cases c2 : s[k] = 104
          · have e1 : T[k] = 104 := hx.trans c2
            have HST : Aside0 (C + 1 = cutN (s.take (k + 1))) := ⟨by rw [hstep.out, if_pos (.inr c2), HDD.out.1]⟩
            clear hx c1 c2 hstep
            go_wp2_with fail
            refine ⟨⟨k + 1, C + 1, by push_cast; rfl, by omega, by push_cast; rfl, by omega, ⟨HST.out, HDD.out.2⟩⟩, by simp [intOf]; omega⟩
          · have e1 : (((T[k]).toNat : Int) == 118) = false := by
              rw [hx, beq_eq_false_iff_ne]
              intro h
              exact c1 (UInt8.toNat_inj.1 (by show (s[k]).toNat = 118; omega))
            have e2 : (((T[k]).toNat : Int) == 104) = false := by
              rw [hx, beq_eq_false_iff_ne]
              intro h
              exact c2 (UInt8.toNat_inj.1 (by show (s[k]).toNat = 104; omega))
            have HST : Aside0 (C = cutN (s.take (k + 1))) := ⟨by rw [hstep.out, if_neg (fun h => h.elim c1 c2), HDD.out.1]; rfl⟩
            clear hx c1 c2 hstep
            go_wp2_with fail
            refine ⟨⟨k + 1, C, by push_cast; rfl, by omega, rfl, by omega, ⟨HST.out, HDD.out.2⟩⟩, by simp [intOf]; omega⟩
      · have hke : k = T.size := by omega
        have hCe : C + 1 = m := by
          have h9 := HDD.out.1
          rw [hke, HTS.out, List.take_length] at h9
          rw [h9]; exact HL2.out
        have g1 : ((T.size : Int) == 2 * (m : Int) - 1) = true := by
          rw [beq_iff_eq]
          have := HL1.out
          have := HTS.out
          omega
        have g2 : ((C : Int) == (m : Int) - 1) = true := by rw [beq_iff_eq]; omega
        have HCE := Aside0.mk hCe
        have hm9 : m ≤ 9 := hfew
        clear hCe hke
        go_wp2_with fail
        go_ret
        exact ⟨rfl, HB.out.trans (HDD.out.2.mono HB.out.size)⟩
  · have hokf : (cutTextP q).2 = false := by simpa using hok
    rw [hokf] at HI HS
    obtain ⟨T, hTT⟩ : ∃ T : ByteArray, (cutTextP q).1 = T := ⟨_, rfl⟩
    rw [hTT] at HI HS
    clear hok hokf hTT HQ HR
    go_wp2_with fail
    refine (HI.out _ (Below.refl _ _)).mono ?_
    rintro e w2 ⟨rfl, h2⟩
    have H2 := Aside0.mk h2
    clear h2
    go_wp2_with fail
    refine (HS.out _ H2.out).mono ?_
    rintro e w3 ⟨rfl, h3⟩
    have H3 := Aside0.mk (H2.out.trans (h3.mono H2.out.size))
    clear h3
    go_wp2_with fail
    go_ret
    exact ⟨rfl, HB.out.trans (H3.out.mono HB.out.size)⟩
end Go.Proofs.Ytiehiockjlhbcaa
