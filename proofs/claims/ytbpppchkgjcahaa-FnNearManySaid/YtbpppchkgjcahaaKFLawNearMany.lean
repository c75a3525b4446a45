/- The law FnNearMany: its walk. Conditions: none. -/
import Derived.Test.YtbpppchkgjcahaaKFCodeRowM
import Derived.Test.YtbpppchkgjcahaaKFSpecStepsM
import Derived.Test.YtbpppchkgjcahaaKFNearP
import Derived.Test.YtbpppchkgjcahaaKFPlanRoomsM
import Derived.Test.YtbpppchkgjcahaaKFWallEnds
namespace Go.Proofs.Ytbpppchkgjcahaa
open Go.RowKit Go.Shelf Go.Proofs.YtbpppchkgjcahaaW.PrintWords Go.Proofs.YtbpppchkgjcahaaW.PrintMore
set_option linter.unusedVariables false
set_option linter.unusedSimpArgs false
set_option maxRecDepth 100000 in
set_option maxHeartbeats 8000000 in
theorem walk_FnNearMany (a0 : Option Addr) (len0 cap0 : Nat) (z0 : List Int) (w : World) (w0 : CodeRow w a0 len0 cap0 z0) (y0 : len0 * 1 ≤ 140737488351232) :
    Calls Try.prog 7 #[.slice a0 len0 cap0] w fun e w' => e = .returned (.bool true) ∧ Below w.heap.size w w' := by
  obtain ⟨bs, hc0⟩ := w0.code
  have HD := DrawNearMany_any a0 len0 cap0 bs w hc0
  clear hc0 w0
  by_cases hlen : 1048576 < len0
  · go_enter Try.func7, Try.ntmps7
    go_wp2_with fail
    go_ret
    exact ⟨rfl, Below.refl _ _⟩
  go_enter Try.func7, Try.ntmps7
  go_wp2_with fail
  refine HD.mono ?_
  rintro e w1 ⟨q, A, c, rfl, HQ⟩
  have HI := Aside0.mk (fun wx (hb : Below w1.heap.size w1 wx) => nearMany_any A c q HQ.out.2.1 wx (Kd.C_below HQ.out.2.2.2.1 hb) HQ.out.2.2.1)
  have HS := Aside0.mk (fun wx (hb : Below w1.heap.size w1 wx) => specNearMany_any A c q HQ.out.2.1 wx (Kd.C_below HQ.out.2.2.2.1 hb) HQ.out.2.2.1)
  have HR := Aside0.mk (fun wx (hb : Below w1.heap.size w1 wx) => planRooms_any A c q HQ.out.2.1 wx (Kd.C_below HQ.out.2.2.2.1 hb) HQ.out.2.2.1)
  have HO := Aside0.mk (fun (x : Nat) wx (hb : Below w1.heap.size w1 wx) => nearOf_any A c q HQ.out.2.1 (x : Int) wx (Kd.C_below HQ.out.2.2.2.1 hb) HQ.out.2.2.1)
  have HE := Aside0.mk (fun wx (hb : Below w1.heap.size w1 wx) => wallEnds_any A c q HQ.out.2.1 wx (Kd.C_below HQ.out.2.2.2.1 hb) HQ.out.2.2.1)
  have HM := Aside0.mk (fun wx (hb : Below w1.heap.size w1 wx) => wallMany_any A c q HQ.out.2.1 wx (Kd.C_below HQ.out.2.2.2.1 hb) HQ.out.2.2.1)
  have HP := Aside0.mk (fun wx (hb : Below w1.heap.size w1 wx) => impl_WallPlain.calls A c q (plainP q) wx (Kd.C_below HQ.out.2.2.2.1 hb) HQ.out.2.2.1 (by unfold impl_WallPlain.f; rw [if_pos HQ.out.2.1]))
  have HB := Aside0.mk HQ.out.2.2.2.2
  by_cases hpl : planG q = true
  · have hn := roomN_pos hpl
    have hlaw : plainP q = true → pairN (nbP q) (roomN q) + endN (clP q) q.length (wdP q) = 3 * (upN (clP q) q.length (wdP q) + lvN (clP q) q.length (wdP q)) := fun hp => near_law (planFlat hpl) (by
      unfold plainP pointsP at hp
      rw [hpl, Bool.true_and, beq_iff_eq] at hp
      exact Int.ofNat.inj hp)
    have hsm := walls_law (planFlat hpl)
    have htl := tees_law (planFlat hpl)
    have hfew := (planFlat hpl).few
    have hple := pairN_le (nbP q) (roomN q)
    have hmul : roomN q * roomN q ≤ 9 * 9 := Nat.mul_le_mul hn.2 hn.2
    have v0 : manyNP q = ((pairN (nbP q) (roomN q) : Int), true) := by unfold manyNP; rw [if_pos hpl, many_pairs]
    have v1 : roomsP q = ((roomN q : Int), true) := by unfold roomsP; rw [if_pos hpl]; rfl
    have v2 : endsP q = (((endN (clP q) q.length (wdP q) : Nat) : Int), true) := by unfold endsP; rw [if_pos hpl]
    have v3 : manyP q = ((((upN (clP q) q.length (wdP q) : Nat) : Int), ((lvN (clP q) q.length (wdP q) : Nat) : Int)), true) := by unfold manyP; rw [if_pos hpl]
    have HOF : Aside0 (∀ x : Nat, x < roomN q → ofP q (x : Int) = (nearTo (nbP q) x (roomN q), true)) := ⟨fun x hx => by
      have hR : inR q (x : Int) = true := inR_iff.2 ⟨x, rfl, hx⟩
      unfold ofP; rw [hpl, hR, Int.toNat_natCast]; rfl⟩
    have hsp := sum_pairs (nbP q) (nbP_symm q) (nbP_irr q) (roomN q)
    obtain ⟨x, hx⟩ : ∃ t, endN (clP q) q.length (wdP q) = t := ⟨_, rfl⟩
    obtain ⟨u, hu⟩ : ∃ t, upN (clP q) q.length (wdP q) = t := ⟨_, rfl⟩
    obtain ⟨l, hl⟩ : ∃ t, lvN (clP q) q.length (wdP q) = t := ⟨_, rfl⟩
    obtain ⟨P, hP⟩ : ∃ t, pairN (nbP q) (roomN q) = t := ⟨_, rfl⟩
    obtain ⟨n, hnn⟩ : ∃ t, roomN q = t := ⟨_, rfl⟩
    rw [hx, hu, hl] at hlaw htl
    rw [hu, hl] at hsm
    rw [hP] at hlaw hple v0 hsp
    rw [hx] at v2
    rw [hu, hl] at v3
    rw [hnn] at hn hple hmul v1 HOF hsp
    rw [v0] at HI HS
    rw [v1] at HR
    rw [v2] at HE
    rw [v3] at HM
    have f1 : u + l ≤ 9 := by omega
    have f2 : x ≤ 18 := by omega
    have f3 : P ≤ 81 := by omega
    have hn9 : n ≤ 9 := hn.2
    have HSP := Aside0.mk hsp
    have d1 : plainP q = true → ((P : Int) == 3 * ((u : Int) + (l : Int)) - (x : Int)) = true := fun h => by
      have := hlaw h
      rw [beq_iff_eq]; omega
    have HD1 := Aside0.mk d1
    clear hpl hlaw hsm htl hfew hple hmul v0 v1 v2 v3 hx hu hl hP hnn HD d1 hsp hn
    go_wp2_with fail
    refine (HI.out _ (Below.refl _ _)).mono ?_
    rintro e w2 ⟨rfl, h2⟩
    have K2 := Aside0.mk h2
    clear h2
    go_wp2_with fail
    refine (HS.out _ K2.out).mono ?_
    rintro e w3 ⟨rfl, h3⟩
    have K3 := Aside0.mk (K2.out.trans (h3.mono K2.out.size))
    clear h3
    go_wp2_with fail
    refine (HR.out _ K3.out).mono ?_
    rintro e w4 ⟨rfl, h4⟩
    have K4 := Aside0.mk (K3.out.trans (h4.mono K3.out.size))
    clear h4
    go_wp2_with fail
    go_loopw [10, 11] (fun s i wr => ∃ k sm : Nat, i = .int .i64 k ∧ k ≤ n ∧ s = .int .i64 sm ∧ sm ≤ 81 ∧ Aside0 (sm = sumNear (nbP q) n k ∧ Below w1.heap.size w1 wr)) (fun _ i _ => n - (intOf i).toNat)
    case atStart => exact ⟨0, 0, rfl, Nat.zero_le _, rfl, by omega, ⟨rfl, K4.out⟩⟩
    case round =>
      obtain ⟨k, sm, rfl, hk, rfl, hsm, HG⟩ := hrel
      by_cases hlt : (k : Int) < (n : Int)
      · have HOK : Aside0 (∀ wx, Below w1.heap.size w1 wx → Calls Try.prog 23 #[.slice A q.length c, .int .i64 (k : Int)] wx fun e w' => RowB wx w' e (nearTo (nbP q) k n, true)) := ⟨fun wx hb => by
          have h := HO.out k wx hb
          rw [HOF.out k (by omega)] at h
          exact h⟩
        have hS := sumNear_succ (nbP q) n k
        have hSL := sumNear_le (nbP q) n (k + 1)
        have hmul : n * (k + 1) ≤ 9 * 9 := Nat.mul_le_mul hn9 (by omega)
        obtain ⟨L, hL⟩ : ∃ L, nearTo (nbP q) k n = L := ⟨_, rfl⟩
        rw [hL] at HOK hS
        obtain ⟨m, hm⟩ : ∃ m, L.length = m := ⟨_, rfl⟩
        have HMM := Aside0.mk hm
        rw [hm] at hS
        have hs2 : sm + m ≤ 81 := by rw [HG.out.1]; omega
        have HSS := Aside0.mk hS
        have hm9 : m ≤ 81 := by omega
        clear hL hm hS hSL hmul
        go_wp2_with fail
        refine (HOK.out _ HG.out.2).mono ?_
        rintro e w5 ⟨⟨A5, c5, rfl, _⟩, h5⟩
        have K5 := Aside0.mk (HG.out.2.trans (h5.mono HG.out.2.size))
        have hml : ((L, true) : List Int × Bool).1.length = m := HMM.out
        rw [hml]
        clear h5 hml
        go_wp2_with fail
        go_roundw
        case rel => exact ⟨k + 1, sm + m, by go_num, by omega, by go_num, hs2, ⟨by rw [HSS.out, HG.out.1], K5.out⟩⟩
        case measure => simp [intOf]; omega
      · have hkn : k = n := by omega
        have hs2 : sm = 2 * P := by rw [HG.out.1, hkn]; exact HSP.out
        have d2 : ((sm : Int) == 2 * (P : Int)) = true := by rw [beq_iff_eq]; omega
        have K4 := Aside0.mk HG.out.2
        clear hkn hs2 HG
        go_wp2_with fail
        refine (HM.out _ K4.out).mono ?_
        rintro e w5 ⟨rfl, h5⟩
        have K5 := Aside0.mk (K4.out.trans (h5.mono K4.out.size))
        clear h5
        go_wp2_with fail
        refine (HE.out _ K5.out).mono ?_
        rintro e w6 ⟨rfl, h6⟩
        have K6 := Aside0.mk (K5.out.trans (h6.mono K5.out.size))
        clear h6
        go_wp2_with fail
        refine (HP.out _ K6.out).mono ?_
        rintro e w7 ⟨rfl, h7⟩
        have K7 := Aside0.mk (HB.out.trans ((K6.out.trans (h7.mono K6.out.size)).mono HB.out.size))
        clear h7
        cases hpp : plainP q with
        | true =>
          have d3 := HD1.out hpp
          clear hpp
          go_wp2_with fail
          go_ret
          exact ⟨rfl, K7.out⟩
        | false =>
          clear hpp
          go_wp2_with fail
          go_ret
          exact ⟨rfl, K7.out⟩
  · have hv : manyNP q = (0, false) := by unfold manyNP; rw [if_neg hpl]
    rw [hv] at HI HS
    clear hpl hv HD
    go_wp2_with fail
    refine (HI.out _ (Below.refl _ _)).mono ?_
    rintro e w2 ⟨rfl, h2⟩
    have H2 := Aside0.mk h2
    clear h2
    go_wp2_with fail
    refine (HS.out _ H2.out).mono ?_
    rintro e w3 ⟨rfl, h3⟩
    have H3 := Aside0.mk (H2.out.trans (h3.mono H2.out.size))
    clear h3
    go_wp2_with fail
    go_ret
    exact ⟨rfl, HB.out.trans (H3.out.mono HB.out.size)⟩
end Go.Proofs.Ytbpppchkgjcahaa
