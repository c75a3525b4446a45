/- The law FnNearFirst: its walk. Conditions: none. -/
import Derived.Test.YtbpppchkgjcahaaKECodeRowM
import Derived.Test.YtbpppchkgjcahaaKESpecNearWM
import Derived.Test.YtbpppchkgjcahaaKESameI
namespace Go.Proofs.Ytbpppchkgjcahaa
open Go.RowKit Go.Shelf Go.Proofs.YtbpppchkgjcahaaW.PrintWords Go.Proofs.YtbpppchkgjcahaaW.PrintMore
set_option linter.unusedVariables false
set_option linter.unusedSimpArgs false
theorem C_none (w : World) : Kd.C (Kd.int .i64) w none ([] : List Int).length [] := Kd.C_of_reads (d := (0 : Int)) (enc := Value.int .i64) (h1 := fun _ => rfl) ⟨rfl, by simp, fun h0 => absurd h0 (by simp)⟩
set_option maxRecDepth 100000 in
set_option maxHeartbeats 16000000 in
theorem walk_FnNearFirst (a0 : Option Addr) (len0 cap0 : Nat) (z0 : List Int) (w : World) (w0 : CodeRow w a0 len0 cap0 z0) (y0 : len0 * 1 ≤ 140737488351232) :
    Calls Try.prog 6 #[.slice a0 len0 cap0] w fun e w' => e = .returned (.bool true) ∧ Below w.heap.size w w' := by
  obtain ⟨bs, hc0⟩ := w0.code
  have HD := DrawNearFirst_any a0 len0 cap0 bs w hc0
  clear hc0 w0
  by_cases hlen : 1048576 < len0
  · go_enter Try.func6, Try.ntmps6
    go_wp2_with fail
    go_ret
    exact ⟨rfl, Below.refl _ _⟩
  go_enter Try.func6, Try.ntmps6
  go_wp2_with fail
  refine HD.mono ?_
  rintro e w1 ⟨q, A, c, rfl, HQ⟩
  have HI := Aside0.mk (fun wx (hb : Below w1.heap.size w1 wx) => nearFirst_any A c q HQ.out.2.1 wx (Kd.C_below HQ.out.2.2.2.1 hb) HQ.out.2.2.1)
  have HCO := Aside0.mk (fun wx (hb : Below w1.heap.size w1 wx) => nearColours_any A c q HQ.out.2.1 wx (Kd.C_below HQ.out.2.2.2.1 hb) HQ.out.2.2.1)
  have HN := Aside0.mk (fun wx (hb : Below w1.heap.size w1 wx) a b => nearIs_any A c q HQ.out.2.1 a b wx (Kd.C_below HQ.out.2.2.2.1 hb) HQ.out.2.2.1)
  have HB := Aside0.mk HQ.out.2.2.2.2
  have H1 := Aside0.mk (HI.out w1 (Below.refl _ _))
  by_cases hpl : planG q = true
  · obtain ⟨R, hR, hEv⟩ := first_ev HQ.out.2.1 hpl
    obtain ⟨ks, hks⟩ := hEv.ex
    have HS := Aside0.mk (fun wx (hb : Below w1.heap.size w1 wx) => L12.spec_NearFirst.calls ks A c q (natsI R) true wx (Kd.C_below HQ.out.2.2.2.1 hb) HQ.out.2.2.1 hks)
    have hn := roomN_pos hpl
    obtain ⟨hlR, hsm⟩ := first_small hR
    obtain ⟨hmx, hm0, hm1⟩ := colours_max hn.1 hR
    have hzero : R.getD 0 0 = 0 := by
      obtain ⟨m, h1, h2, h3, _⟩ := hR
      exact colS_zero hn.1 h3
    have HAP : Aside0 (∀ x y, x < roomN q → y < x → R.getD x 0 = R.getD y 0 → nearIsP q (x : Int) (y : Int) = false) := ⟨fun x y hx hy he => by
      obtain ⟨m, h1, h2, h3, _⟩ := hR
      have G := colS_good (roomN q) [] R (by simp) h3
      have hnb : nbP q x y = false := by
        cases h : nbP q x y with
        | false => rfl
        | true => exact absurd he.symm (G.apart x y (Nat.zero_le _) hx hy h)
      unfold nearIsP
      rw [Int.toNat_natCast, Int.toNat_natCast, hnb, Bool.and_false]⟩
    have HC2 : Aside0 (∀ wx, Below w1.heap.size w1 wx → Calls Try.prog 33 #[.slice A q.length c] wx fun e w' => e = .returned (.tuple #[.int .i64 (Lib.maxOf (natsI R) + 1), .bool true]) ∧ Below wx.heap.size wx w') := ⟨fun wx hb => (HCO.out wx hb).mono fun e w' ⟨h, hb'⟩ => by
      rcases h with ⟨_, R', hR', rfl⟩ | ⟨hno, _⟩
      · rw [hR'.uniq hR]; exact ⟨rfl, hb'⟩
      · rw [hpl] at hno; cases hno⟩
    have HUQ : Aside0 (∀ R', IsFirst (nbP q) (roomN q) R' → R' = R) := ⟨fun R' h => h.uniq hR⟩
    have HNL : Aside0 ((natsI R).length = R.length) := ⟨natsI_len R⟩
    have HGD : Aside0 (∀ j, j < R.length → (natsI R).getD j 0 = ((R.getD j 0 : Nat) : Int)) := ⟨fun j hj => getD_natsI hj⟩
    have HSI := Aside0.mk (fun A1 c1 A2 c2 W => sameI_any (natsI R) (by rw [natsI_len]; omega) A1 c1 A2 c2 W)
    have HPN := Aside0.mk hpl
    obtain ⟨M, hM⟩ : ∃ M, Lib.maxOf (natsI R) = M := ⟨_, rfl⟩
    rw [hM] at hmx hm0 hm1 HC2
    have hm9 : M ≤ 100 := by omega
    have HMX := Aside0.mk hmx
    obtain ⟨n, hnn⟩ : ∃ n, roomN q = n := ⟨_, rfl⟩
    rw [hnn] at hsm hlR HAP HMX
    rw [hnn] at hn
    have hn9 : n ≤ 9 := hn.2
    have hn1 : 1 ≤ n := hn.1
    have HLR := Aside0.mk hlR
    have HZ := Aside0.mk hzero
    clear hR hEv hks hsm hM hmx hm1 HI HCO hpl hzero hlR hnn hn HQ HD
    go_wp2_with fail
    refine H1.out.mono ?_
    rintro e w2 ⟨⟨_, R', g2, c2, hR', rfl, hcap, hC⟩ | ⟨hno, rfl⟩, h2⟩
    case inr => rw [HPN.out] at hno; cases hno
    obtain rfl := HUQ.out R' hR'
    have K2 := Aside0.mk h2
    have HCC := Aside0.mk hC
    have HCP := Aside0.mk hcap
    clear h2 hR' hC hcap
    go_wp2_with fail
    refine (HS.out _ K2.out).mono ?_
    rintro e w3 ⟨v3, rfl, hR3, h3⟩
    obtain ⟨A3, c3, rfl, hcap3, hC3⟩ := Kd.R_reads hR3
    have K3 := Aside0.mk (K2.out.trans (h3.mono K2.out.size))
    have HC2' := Aside0.mk (Kd.C_below HCC.out h3)
    have HS3 : Aside0 (Calls Try.prog 32 #[.slice (some ⟨g2, 0, none⟩) n c2, .slice A3 n c3] w3 fun e w' => e = .returned (.bool true) ∧ Below w3.heap.size w3 w') := ⟨by
      have h := HSI.out (some ⟨g2, 0, none⟩) c2 A3 c3 w3 (by rw [HNL.out]; exact HC2'.out) (by rw [HNL.out]; exact HCP.out) hC3 hcap3
      rw [HNL.out, HLR.out] at h
      exact h⟩
    have hnc : (n : Int) ≤ (c2 : Int) := by have := HCP.out; have := HLR.out; omega
    rw [HNL.out, HLR.out]
    clear h3 hR3 hcap3 hC3
    go_wp2_with fail
    refine HS3.out.mono ?_
    rintro e w4 ⟨rfl, h4⟩
    have K4 := Aside0.mk (K3.out.trans (h4.mono K3.out.size))
    have HC4 := Aside0.mk (Kd.C_below HC2'.out h4)
    clear h4
    go_wp2_with fail
    refine (HC2.out _ K4.out).mono ?_
    rintro e w5 ⟨rfl, h5⟩
    have K5 := Aside0.mk (K4.out.trans (h5.mono K4.out.size))
    have HC5 := Aside0.mk (Kd.C_below HC4.out h5)
    clear h5
    go_wp2_with fail
    go_loopw [10] (fun i wr => ∃ x : Nat, i = .int .i64 x ∧ x ≤ n ∧ Aside0 (Below w5.heap.size w5 wr)) (fun i _ => n - (intOf i).toNat)
    case atStart => exact ⟨0, rfl, Nat.zero_le _, ⟨Below.refl _ _⟩⟩
    case round =>
      obtain ⟨x, rfl, hx, HE⟩ := hrel
      obtain ⟨wi, rfl⟩ : ∃ wi : World, wi = wr := ⟨_, rfl⟩
      by_cases hlt : (x : Int) < (n : Int)
      · have hxn : x < n := by omega
        have hcx := cells_C (Kd.C_below HC5.out HE.out) (j := x) (by rw [HLR.out]; exact hxn)
        rw [HGD.out x (by rw [HLR.out]; exact hxn)] at hcx
        have hxm := HMX.out x hxn
        have x0 : (0 : Int) ≤ (x : Int) := by omega
        obtain ⟨v, hv⟩ : ∃ v, R'.getD x 0 = v := ⟨_, rfl⟩
        have HVX := Aside0.mk hv
        rw [hv] at hcx hxm
        have hv0 : ¬ (v : Int) < 0 := by omega
        have hv1 : ¬ (v : Int) ≥ M + 1 := by omega
        have hv2 : ¬ M + 1 ≤ (v : Int) := by omega
        have HAPX : Aside0 (∀ y, y < x → R'.getD y 0 = v → nearIsP q (x : Int) (y : Int) = false) := ⟨fun y hy he => HAP.out x y hxn hy (by rw [HVX.out, he])⟩
        clear hv hxm
        go_wp2_with fail
        go_loopw [11] (fun i wr => ∃ y : Nat, i = .int .i64 y ∧ y ≤ x ∧ Aside0 (Below w5.heap.size w5 wr)) (fun i _ => x - (intOf i).toNat)
        case atStart => exact ⟨0, rfl, Nat.zero_le _, HE⟩
        case round =>
          obtain ⟨y, rfl, hy, HG⟩ := hrel
          obtain ⟨wj, rfl⟩ : ∃ wj : World, wj = wr := ⟨_, rfl⟩
          clear hcx
          by_cases hlt2 : (y : Int) < (x : Int)
          · have hyx : y < x := by omega
            have hcx := cells_C (Kd.C_below HC5.out HG.out) (j := x) (by rw [HLR.out]; exact hxn)
            rw [HGD.out x (by rw [HLR.out]; exact hxn), HVX.out] at hcx
            have hcy := cells_C (Kd.C_below HC5.out HG.out) (j := y) (by rw [HLR.out]; omega)
            rw [HGD.out y (by rw [HLR.out]; omega)] at hcy
            have hap := HAPX.out y hyx
            have HKP : Aside0 (∀ W, Below w5.heap.size w5 W → W.cell? ⟨g2, x, none⟩ = some (.int .i64 (v : Int)) ∧ W.cell? ⟨g2, y, none⟩ = some (.int .i64 ((R'.getD y 0 : Nat) : Int))) := ⟨fun W hW => by
              have k1 := cells_C (Kd.C_below HC5.out hW) (j := x) (by rw [HLR.out]; exact hxn)
              rw [HGD.out x (by rw [HLR.out]; exact hxn), HVX.out] at k1
              have k2 := cells_C (Kd.C_below HC5.out hW) (j := y) (by rw [HLR.out]; omega)
              rw [HGD.out y (by rw [HLR.out]; omega)] at k2
              exact ⟨k1, k2⟩⟩
            obtain ⟨u, hu⟩ : ∃ u, R'.getD y 0 = u := ⟨_, rfl⟩
            rw [hu] at hcy hap HKP
            have y0 : (0 : Int) ≤ (y : Int) := by omega
            have yn : (y : Int) < (n : Int) := by omega
            by_cases e : u = v
            · have hvu : ((v : Int) == (u : Int)) = true := by rw [beq_iff_eq, e]
              have HNI : Aside0 (∀ wx, Below w5.heap.size w5 wx → Calls Try.prog 34 #[.slice A q.length c, .int .i64 (x : Int), .int .i64 (y : Int)] wx fun e w' => e = .returned (.bool false) ∧ Below wx.heap.size wx w') := ⟨fun wx hb => by
                have h := HN.out wx (K5.out.trans (hb.mono K5.out.size)) (x : Int) (y : Int)
                rw [hap e] at h
                exact h⟩
              clear e hap hu
              go_wp2_with fail
              go_region_held3 (fun w' => w'.cell? ⟨g2, x, none⟩ = some (.int .i64 (v : Int)) ∧ w'.cell? ⟨g2, y, none⟩ = some (.int .i64 (u : Int))) (first
                | exact ⟨hcx, hcy⟩
                | exact HCD.out
                | (go_simp)) ((go_at_call 34; refine Calls.mono (HNI.out _ (by repeat (first | exact HG.out | apply pw_below_drewN))) ?_; rintro e w6 ⟨rfl, h6⟩; have K6 : Aside0 (Below w5.heap.size w5 w6) := ⟨Below.trans (by repeat (first | exact HG.out | apply pw_below_drewN)) (h6.mono (by have := HG.out.size; simpa using this))⟩; have HCD := Aside0.mk (HKP.out w6 K6.out); clear h6))
              all_goals
                go_wp2_with fail
                go_roundw
                case rel => exact ⟨y + 1, by go_num, by omega, K6⟩
                case measure => simp [intOf]; omega
            · have hvu : ((v : Int) == (u : Int)) = false := by rw [beq_eq_false_iff_ne]; omega
              clear e hap hu
              go_wp2_with fail
              go_quiet (fail)
              go_wp2_with fail
              go_roundw
              case rel => exact ⟨y + 1, by go_num, by omega, ⟨pw_below_drewN HG.out _⟩⟩
              case measure => simp [intOf]; omega
          · have hyx : y = x := by omega
            clear hyx
            go_wp2_with fail
            go_roundw
            case rel => exact ⟨x + 1, by go_num, by omega, HG⟩
            case measure => simp [intOf]; omega
      · have K7 := Aside0.mk (HB.out.trans ((K5.out.trans (HE.out.mono K5.out.size)).mono HB.out.size))
        have hcz := cells_C (Kd.C_below HC5.out HE.out) (j := 0) (by rw [HLR.out]; omega)
        rw [HGD.out 0 (by rw [HLR.out]; omega), HZ.out] at hcz
        go_wp2_with fail
        go_ret
        exact ⟨rfl, K7.out⟩
  · have hplf : planG q = false := by cases h : planG q with | true => exact absurd h hpl | false => rfl
    have HPN := Aside0.mk hplf
    have HS := Aside0.mk (fun wx (hb : Below w1.heap.size w1 wx) => L12.spec_NearFirst.calls 1 A c q [] false wx (Kd.C_below HQ.out.2.2.2.1 hb) HQ.out.2.2.1 (first_no HQ.out.2.1 hplf))
    clear hpl hplf HI HCO HN HQ HD
    go_wp2_with fail
    refine H1.out.mono ?_
    rintro e w2 ⟨⟨hno, _⟩ | ⟨hno, rfl⟩, h2⟩
    case inl => rw [HPN.out] at hno; cases hno
    have K2 := Aside0.mk h2
    clear h2 hno
    go_wp2_with fail
    refine (HS.out _ K2.out).mono ?_
    rintro e w3 ⟨v3, rfl, hR3, h3⟩
    obtain ⟨A3, c3, rfl, hcap3, hC3⟩ := Kd.R_reads hR3
    have K3 := Aside0.mk (K2.out.trans (h3.mono K2.out.size))
    have HS3 : Aside0 (Calls Try.prog 32 #[.slice none 0 0, .slice A3 0 c3] w3 fun e w' => e = .returned (.bool true) ∧ Below w3.heap.size w3 w') := ⟨sameI_any [] (by simp) none 0 A3 c3 w3 (C_none w3) (by simp) hC3 hcap3⟩
    have HC3 := Aside0.mk hC3
    have HP3 := Aside0.mk hcap3
    simp only [List.length_nil]
    clear h3 hR3 hcap3 hC3
    go_wp2_with fail
    refine HS3.out.mono ?_
    rintro e w4 ⟨rfl, h4⟩
    have K4 := Aside0.mk (K3.out.trans (h4.mono K3.out.size))
    have HS4 : Aside0 (Calls Try.prog 32 #[.slice none 0 0, .slice A3 0 c3] w4 fun e w' => e = .returned (.bool true) ∧ Below w4.heap.size w4 w') := ⟨sameI_any [] (by simp) none 0 A3 c3 w4 (C_none w4) (by simp) (Kd.C_below HC3.out h4) HP3.out⟩
    clear h4
    go_wp2_with fail
    refine HS4.out.mono ?_
    rintro e w5 ⟨rfl, h5⟩
    have K5 := Aside0.mk (K4.out.trans (h5.mono K4.out.size))
    clear h5
    go_wp2_with fail
    go_ret
    exact ⟨rfl, HB.out.trans (K5.out.mono HB.out.size)⟩
end Go.Proofs.Ytbpppchkgjcahaa
