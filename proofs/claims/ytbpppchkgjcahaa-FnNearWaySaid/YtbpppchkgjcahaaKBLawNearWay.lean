/- The law FnNearWay: its walk. Conditions: none. -/
import Derived.Test.YtbpppchkgjcahaaKBCodeRowM
import Derived.Test.YtbpppchkgjcahaaKBSpecNearW
namespace Go.Proofs.Ytbpppchkgjcahaa
open Go.RowKit Go.Shelf Go.Proofs.YtbpppchkgjcahaaW.PrintWords Go.Proofs.YtbpppchkgjcahaaW.PrintMore
set_option linter.unusedVariables false
set_option linter.unusedSimpArgs false
set_option maxRecDepth 100000 in
set_option maxHeartbeats 8000000 in
theorem walk_FnNearWay (a0 : Option Addr) (len0 cap0 : Nat) (z0 : List Int) (w : World) (w0 : CodeRow w a0 len0 cap0 z0) (y0 : len0 * 1 ≤ 140737488351232) :
    Calls Try.prog 4 #[.slice a0 len0 cap0] w fun e w' => e = .returned (.bool true) ∧ Below w.heap.size w w' := by
  obtain ⟨bs, hc0⟩ := w0.code
  have HD := DrawNearWay_any a0 len0 cap0 bs w hc0
  clear hc0 w0
  by_cases hlen : 1048576 < len0
  · go_enter Try.func4, Try.ntmps4
    go_wp2_with fail
    go_ret
    exact ⟨rfl, Below.refl _ _⟩
  go_enter Try.func4, Try.ntmps4
  go_wp2_with fail
  refine HD.mono ?_
  rintro e w1 ⟨q, A, c, a, b, rfl, HQ⟩
  have HI := Aside0.mk (fun wx (hb : Below w1.heap.size w1 wx) a b => nearWay_any A c q HQ.out.2.1 a b wx (Kd.C_below HQ.out.2.2.2.1 hb) HQ.out.2.2.1)
  have HS := Aside0.mk (fun wx (hb : Below w1.heap.size w1 wx) => specNearWay_any A c q HQ.out.2.1 a b wx (Kd.C_below HQ.out.2.2.2.1 hb) HQ.out.2.2.1)
  have HO := Aside0.mk (fun wx (hb : Below w1.heap.size w1 wx) => nearOf_any A c q HQ.out.2.1 a wx (Kd.C_below HQ.out.2.2.2.1 hb) HQ.out.2.2.1)
  have HB := Aside0.mk HQ.out.2.2.2.2
  have H1 := Aside0.mk (HI.out w1 (Below.refl _ _) a b)
  clear HD HQ
  by_cases hok : (planG q && inR q a && inR q b) = true
  · obtain ⟨h12, hbR⟩ := Bool.and_eq_true_iff.1 hok
    obtain ⟨hpl, haR⟩ := Bool.and_eq_true_iff.1 h12
    obtain ⟨x, rfl, hx⟩ := inR_iff.1 haR
    obtain ⟨y, rfl, hy⟩ := inR_iff.1 hbR
    have hn := roomN_pos hpl
    have v1 : wayP q (x : Int) (y : Int) = (dAt (stepsL (nbP q) (roomN q) x) y, true) := by unfold wayP; rw [hok, if_pos rfl, Int.toNat_natCast, Int.toNat_natCast]
    have v2 : wayP q (y : Int) (x : Int) = (dAt (stepsL (nbP q) (roomN q) x) y, true) := by
      unfold wayP
      rw [show (planG q && inR q (y : Int) && inR q (x : Int)) = true by rw [hpl, haR, hbR]; rfl, if_pos rfl, Int.toNat_natCast, Int.toNat_natCast, steps_same (nbP_symm q) hx hy]
    have v3 : ofP q (x : Int) = (nearTo (nbP q) x (roomN q), true) := by unfold ofP; rw [hpl, haR, Int.toNat_natCast]; rfl
    have HW : Aside0 (∀ z : Nat, z < roomN q → nbP q x z = true → ∃ dz, wayP q (z : Int) (y : Int) = (dz, true) ∧ dAt (stepsL (nbP q) (roomN q) x) y ≤ dz + 1 ∧ -1 ≤ dz ∧ dz ≤ 100) := ⟨fun z hz hnz => by
      have hzR : inR q (z : Int) = true := inR_iff.2 ⟨z, rfl, hz⟩
      have h3 := steps_few (nb := nbP q) hz hy
      exact ⟨dAt (stepsL (nbP q) (roomN q) z) y, by unfold wayP; rw [hpl, hzR, hbR, Int.toNat_natCast, Int.toNat_natCast]; rfl, steps_detour (nbP_symm q) hx hy hz hnz, steps_low hz hy, by omega⟩⟩
    have hz0 := steps_zero (nb := nbP q) hx hy
    have hlow := steps_low (nb := nbP q) hx hy
    have hfew := steps_few (nb := nbP q) hx hy
    have HNT : Aside0 (∀ k, k < (nearTo (nbP q) x (roomN q)).length → ∃ z : Nat, z < roomN q ∧ nbP q x z = true ∧ ∀ h, (nearTo (nbP q) x (roomN q))[k]'h = (z : Int)) := ⟨fun k hk => by
      obtain ⟨hk', e⟩ := nearTo_get hk
      obtain ⟨m1, m2⟩ := nearL_mem.1 (List.getElem_mem hk')
      exact ⟨(nearL (nbP q) (roomN q) x)[k], m1, m2, fun _ => e⟩⟩
    have hll := nearTo_len (nbP q) x (roomN q)
    obtain ⟨d, hd⟩ : ∃ d, dAt (stepsL (nbP q) (roomN q) x) y = d := ⟨_, rfl⟩
    have H2 := Aside0.mk (fun wx hb => HI.out wx hb (y : Int) (x : Int))
    have H3 := Aside0.mk (fun (z : Nat) wx hb => HI.out wx hb (z : Int) (y : Int))
    rw [hd] at v1 v2 HW hz0 hlow hfew
    rw [v1] at H1 HS
    rw [v2] at H2
    rw [v3] at HO
    obtain ⟨L, hL⟩ : ∃ L, nearTo (nbP q) x (roomN q) = L := ⟨_, rfl⟩
    rw [hL] at HO HNT hll
    have hd9 : d ≤ 100 := by omega
    have hl9 : L.length ≤ 9 := by omega
    obtain ⟨l, hl⟩ : ∃ l, L.length = l := ⟨_, rfl⟩
    have HLL := Aside0.mk hl
    have hxy : ((d == 0) = true ∧ ((x : Int) == (y : Int)) = true) ∨ ((d == 0) = false ∧ ((x : Int) == (y : Int)) = false) := by
      by_cases e : x = y
      · exact .inl ⟨by rw [beq_iff_eq]; exact hz0.2 e, by rw [beq_iff_eq, e]⟩
      · exact .inr ⟨by rw [beq_eq_false_iff_ne]; exact fun h => e (hz0.1 h), by rw [beq_eq_false_iff_ne]; omega⟩
    have HXY := Aside0.mk hxy
    clear hok h12 hbR haR hpl v1 v2 v3 hz0 hd hL hll hxy hn hfew
    go_wp2_with fail
    refine H1.out.mono ?_
    rintro e w2 ⟨rfl, h2⟩
    have K2 := Aside0.mk h2
    clear h2
    go_wp2_with fail
    refine (HS.out _ K2.out).mono ?_
    rintro e w3 ⟨rfl, h3⟩
    have K3 := Aside0.mk (K2.out.trans (h3.mono K2.out.size))
    clear h3
    go_wp2_with fail
    refine (H2.out _ K3.out).mono ?_
    rintro e w4 ⟨rfl, h4⟩
    have K4 := Aside0.mk (K3.out.trans (h4.mono K3.out.size))
    clear h4
    go_wp2_with fail
    refine (HO.out _ K4.out).mono ?_
    rintro e w5 ⟨⟨A5, c5, rfl, ho⟩, h5⟩
    have ho : w5.ownsRow w4.heap.size 3 1 (.slice A5 L.length c5) L.length (nums .i64 L) := ho
    have K5 := Aside0.mk (K4.out.trans (h5.mono K4.out.size))
    have HRC := Aside0.mk (rowC_own ho)
    have HRB : Aside0 (∀ j, A5 = some ⟨j, 0, none⟩ → j < w5.heap.size) := ⟨fun j hj => (ho.lt j (by rw [hj]; rfl)).2⟩
    have hcl : L.length ≤ c5 := by
      rcases ho.2 with ⟨e, e0⟩ | ⟨_, _, _, e, _, _, h5, _⟩
      · omega
      · injection e with e1 e2 e3; omega
    rw [hl] at hl9 hcl ⊢
    have hcl2 : (l : Int) ≤ (c5 : Int) := by omega
    clear h5 ho hl
    go_wp2_with fail
    go_loopw [14] (fun i wr => ∃ k : Nat, i = .int .i64 k ∧ k ≤ l ∧ Aside0 (Below w5.heap.size w5 wr)) (fun i _ => l - (intOf i).toNat)
    case atStart => exact ⟨0, rfl, Nat.zero_le _, ⟨Below.refl _ _⟩⟩
    case round =>
      obtain ⟨k, rfl, hk, HE⟩ := hrel
      obtain ⟨wi, rfl⟩ : ∃ wi : World, wi = wr := ⟨_, rfl⟩
      by_cases hlt : (k : Int) < (l : Int)
      · have hkl : k < L.length := by rw [HLL.out]; omega
        obtain ⟨z, hz, hnz, hLz⟩ := HNT.out k hkl
        obtain ⟨dz, hv, hd1, hd2, hd3⟩ := HW.out z hz hnz
        obtain ⟨gr, hA, hcell⟩ := (HRC.out.keep (fun j hj => HE.out.block j (HRB.out j hj))) k hkl
        subst hA
        rw [hLz hkl] at hcell
        have HZ : Aside0 (Calls Try.prog 21 #[.slice A q.length c, .int .i64 (z : Int), .int .i64 (y : Int)] wi fun e w' => e = .returned (.tuple #[.int .i64 dz, .bool true]) ∧ Below wi.heap.size wi w') := ⟨by
          have h := H3.out z wi (K5.out.trans (HE.out.mono K5.out.size))
          rw [hv] at h
          exact h⟩
        have k0 : (0 : Int) ≤ (k : Int) := by omega
        have hgt : ¬ dz + 1 < d := by omega
        clear hLz hv hnz hz hd1
        go_wp2_with fail
        refine HZ.out.mono ?_
        rintro e w6 ⟨rfl, h6⟩
        have K6 := Aside0.mk (HE.out.trans (h6.mono HE.out.size))
        clear h6
        go_wp2_with fail
        go_roundw
        case rel => exact ⟨k + 1, by go_num, by omega, K6⟩
        case measure => simp [intOf]; omega
      · have K7 := Aside0.mk (HB.out.trans ((K5.out.trans (HE.out.mono K5.out.size)).mono HB.out.size))
        rcases HXY.out with ⟨e1, e2⟩ | ⟨e1, e2⟩
        · clear HXY
          go_wp2_with fail
          go_ret
          exact ⟨rfl, K7.out⟩
        · clear HXY
          go_wp2_with fail
          go_ret
          exact ⟨rfl, K7.out⟩
  · have hv : wayP q a b = (0, false) := by unfold wayP; rw [if_neg hok]
    rw [hv] at H1 HS
    clear hok hv
    go_wp2_with fail
    refine H1.out.mono ?_
    rintro e w2 ⟨rfl, h2⟩
    have H2 := Aside0.mk h2
    clear h2
    go_wp2_with fail
    refine (HS.out _ H2.out).mono ?_
    rintro e w3 ⟨rfl, h3⟩
    have H3 := Aside0.mk (H2.out.trans (h3.mono H2.out.size))
    clear h3
    go_wp2_with fail
    go_ret
    exact ⟨rfl, HB.out.trans (H3.out.mono HB.out.size)⟩
end Go.Proofs.Ytbpppchkgjcahaa
