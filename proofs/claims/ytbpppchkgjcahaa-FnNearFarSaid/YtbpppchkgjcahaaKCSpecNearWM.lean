/- Texts of this claim's, joined by a program: CSpecNearW, CPlanTurn, CListOwn, CCutStuckS, CCutStuck, CStuckBy, CWaysP, CHered, CTile. -/
import Derived.Test.YtbpppchkgjcahaaKCSpecSteps
import Derived.Test.YtbpppchkgjcahaaKCTurn
import Derived.Test.YtbpppchkgjcahaaKCFloorRM
section
namespace Go.Proofs.Ytbpppchkgjcahaa
open Go.RowKit Go.Shelf Go.Proofs.YtbpppchkgjcahaaW.PrintWords Go.Proofs.YtbpppchkgjcahaaW.PrintMore
set_option linter.unusedVariables false
set_option linter.unusedSimpArgs false
theorem fold_max (m : Int) : ∀ (L : List Int), L.foldl max m = max m (L.foldl max m) := by
  intro L
  induction L generalizing m with
  | nil => show m = max m m; omega
  | cons x L ih =>
    rw [List.foldl_cons]
    have := ih (max m x)
    omega
theorem fold_two (m k : Int) : ∀ (L : List Int), L.foldl max (max m k) = max m (L.foldl max k) := by
  intro L
  induction L generalizing k with
  | nil => rfl
  | cons x L ih =>
    rw [List.foldl_cons, List.foldl_cons, ← ih (max k x)]
    congr 1
    omega
theorem maxTo_all (m : Int) {L : List Int} (hL : L ≠ []) : L.foldl max m = max m (Lib.maxOf L) := by
  cases L with
  | nil => exact absurd rfl hL
  | cons x L =>
    unfold Lib.maxOf
    rw [List.headD_cons, ← fold_two, List.foldl_cons, List.foldl_cons]
    congr 1
    omega
set_option maxHeartbeats 8000000 in
theorem specNearFar_any (A : Option Addr) (cap : Nat) (p : List ByteArray) (hp : SmallP p) (w : World) (hr0 : Kd.C Kd.string w A p.length p) (hc0 : p.length ≤ cap) :
    Calls Try.prog 26 #[.slice A p.length cap] w fun e w' => e = .returned (.tuple #[.int .i64 (farP p).1, .bool (farP p).2]) ∧ Below w.heap.size w w' := by
  have HPI := Aside0.mk (spec_PlanIn.calls A cap p (planG p) w hr0 hc0 (by unfold spec_PlanIn.f; rw [if_pos hp]))
  have HST := Aside0.mk (fun (hpl : planG p = true) (x : Nat) (hx : x < roomN p) W (hW : Below w.heap.size w W) => l4Steps_any A cap p hpl x hx W (Kd.C_below hr0 hW) hc0)
  have HRO : Aside0 (planG p = true → ∀ W, Below w.heap.size w W → Calls Try.prog 65 #[.slice A p.length cap] W fun e w' => e = .returned (.int .i64 (roomN p : Int)) ∧ Below W.heap.size W w') := ⟨fun hpl W hW => spec_l1Rooms.calls A cap p (roomN p : Int) W (Kd.C_below hr0 hW) hc0 (rooms_some hpl)⟩
  clear hr0
  go_enter Try.func26, Try.ntmps26
  go_wp2_with fail
  refine HPI.out.mono ?_
  rintro e w1 ⟨rfl, hb1⟩
  have HB1 := Aside0.mk hb1
  clear hb1
  cases hpl : planG p with
  | false =>
    have HV : Aside0 (farP p = (0, false)) := ⟨by unfold farP; simp [hpl]⟩
    clear hpl
    go_wp2_with fail
    go_ret2
    exact ⟨by rw [HV.out]; rfl, HB1.out⟩
  | true =>
    have HV : Aside0 (farP p = (farTo (nbP p) (roomN p) (roomN p), true)) := ⟨by unfold farP; rw [if_pos hpl]⟩
    have hn := roomN_pos hpl
    have HS2 := Aside0.mk (HST.out hpl)
    have HR2 := Aside0.mk (HRO.out hpl)
    obtain ⟨n, hnn⟩ : ∃ n, roomN p = n := ⟨_, rfl⟩
    rw [hnn] at hn HS2 HR2 HV
    clear hpl hnn
    go_wp2_with fail
    go_loopw [4, 5] (fun s i wr => ∃ k : Nat, i = .int .i64 k ∧ k ≤ n ∧ s = .int .i64 (farTo (nbP p) n k) ∧ Aside0 (Below w.heap.size w wr)) (fun _ i _ => n - (intOf i).toNat)
    case atStart => exact ⟨0, rfl, Nat.zero_le _, rfl, HB1⟩
    case round =>
      obtain ⟨k, rfl, hk, rfl, HD⟩ := hrel
      obtain ⟨F, hF⟩ : ∃ F, farTo (nbP p) n k = F := ⟨_, rfl⟩
      have HFF := Aside0.mk hF
      rw [hF]
      clear hF
      go_wp2_with fail
      refine (HR2.out _ HD.out).mono ?_
      rintro e w2 ⟨rfl, hb2⟩
      have HB2 := Aside0.mk (HD.out.trans (hb2.mono HD.out.size))
      clear hb2
      by_cases hlt : (k : Int) < (n : Int)
      · have hkn : k < n := by omega
        have HS : Aside0 (farTo (nbP p) n (k + 1) = (stepsL (nbP p) n k).foldl max F) := ⟨by
          rw [maxTo_all F (by intro e; have := steps_len (nb := nbP p) hkn; rw [e] at this; simp at this; omega), ← HFF.out]; rfl⟩
        have hsl := steps_len (nb := nbP p) hkn
        have HK := Aside0.mk (HS2.out k hkn)
        obtain ⟨L, hL⟩ : ∃ L, stepsL (nbP p) n k = L := ⟨_, rfl⟩
        rw [hL] at HS hsl HK
        clear hL
        go_wp2_with fail
        refine (HK.out _ HB2.out).mono ?_
        rintro e w3 ⟨go, c, rfl, hc, hN, hb3⟩
        have HB3 := Aside0.mk (HB2.out.trans (hb3.mono HB2.out.size))
        have HN := Aside0.mk hN
        have hc2 : (n : Int) ≤ (c : Int) := by omega
        clear hN hb3
        go_wp2_with fail
        go_loopw [4, 7] (fun s i wr => ∃ j : Nat, i = .int .i64 j ∧ j ≤ n ∧ s = .int .i64 ((L.take j).foldl max F) ∧ Aside0 (NumsC wr go n (dAt L) ∧ Below w.heap.size w wr)) (fun _ i _ => n - (intOf i).toNat)
        case atStart => exact ⟨0, rfl, Nat.zero_le _, rfl, ⟨HN.out, HB3.out⟩⟩
        case round =>
          obtain ⟨j, rfl, hj, rfl, HE⟩ := hrel
          by_cases hlt2 : (j : Int) < (n : Int)
          · have hjl : j < L.length := by omega
            obtain ⟨s1, _⟩ := HE.out.1.at (b := j) (by omega)
            have j0 : (0 : Int) ≤ (j : Int) := by omega
            have HS3 : Aside0 ((L.take (j + 1)).foldl max F = max ((L.take j).foldl max F) (dAt L j)) := ⟨by
              rw [List.take_succ_eq_append_getElem hjl, List.foldl_append, dAt_get hjl]; rfl⟩
            obtain ⟨M, hM⟩ : ∃ M, (L.take j).foldl max F = M := ⟨_, rfl⟩
            rw [hM] at HS3 ⊢
            obtain ⟨z, hz⟩ : ∃ z, dAt L j = z := ⟨_, rfl⟩
            rw [hz] at HS3 s1
            clear hM hz
            go_wp2_with fail
            go_roundw
            case rel => exact ⟨j + 1, by go_num, by omega, by rw [HS3.out], HE⟩
            case measure => simp [intOf]; omega
          · have hjn : j = n := by omega
            have HS4 : Aside0 ((L.take j).foldl max F = farTo (nbP p) n (k + 1)) := ⟨by rw [HS.out, List.take_of_length_le (by omega)]⟩
            rw [HS4.out]
            clear hjn
            go_wp2_with fail
            go_roundw
            case rel => exact ⟨k + 1, by go_num, by omega, rfl, ⟨HE.out.2⟩⟩
            case measure => simp [intOf]; omega
      · have hkn : k = n := by omega
        have HV2 : Aside0 (farP p = (F, true)) := ⟨by rw [HV.out, ← HFF.out, hkn]⟩
        clear hkn
        go_wp2_with fail
        go_ret2
        exact ⟨by rw [HV2.out]; rfl, HB2.out⟩
end Go.Proofs.Ytbpppchkgjcahaa
end
section
namespace Go.Proofs.Ytbpppchkgjcahaa
open Go.RowKit Go.Shelf Go.Proofs.YtbpppchkgjcahaaW.PrintWords Go.Proofs.YtbpppchkgjcahaaW.PrintMore
set_option linter.unusedVariables false
set_option linter.unusedSimpArgs false
theorem GridAt.in_ {W : World} {g n : Nat} {rows : List (Nat × List Int)} (h : GridAt W g n rows) : GridIn W g (rows.map Prod.snd) := by
  refine ⟨_, h.1, fun r row hr => ?_⟩
  rw [List.getElem?_map] at hr
  obtain ⟨⟨a, xs⟩, h1, rfl⟩ := Option.map_eq_some_iff.1 hr
  obtain ⟨hl, hg⟩ := List.getElem?_eq_some_iff.1 h1
  refine ⟨a, xs.length, ?_, _, h.2 _ (List.mem_of_getElem? h1), fun c x hx => ?_⟩
  · rw [List.getElem?_toArray, List.getElem?_append_left (by rw [List.length_map]; exact hl), List.getElem?_map, h1]
    rfl
  · rw [List.getElem?_toArray, List.getElem?_map]
    show Option.map _ xs[c]? = _
    rw [hx]; rfl
def planV (rows : List (List Int)) : List ByteArray × Bool := if (shapeB rows && decide ((scanOf rows).2.length ≤ 9)) && fullB rows then ((numsOf rows).map rowText, true) else ([], false)
theorem nums_smallR {rows : List (List Int)} (hs : shapeB rows = true) : (numsOf rows).length ≤ 6 ∧ ∀ row ∈ numsOf rows, row.length ≤ 6 ∧ ∀ k ∈ row, (0 : Int) ≤ k ∧ k ≤ 100 := by
  have h6 : rows.length ≤ 6 ∧ (rows.getD 0 []).length ≤ 6 := by
    unfold shapeB at hs
    simp only [Bool.and_eq_true, decide_eq_true_eq] at hs
    exact ⟨hs.1.1.1.2, hs.1.2⟩
  unfold numsOf
  refine ⟨by rw [List.length_map, List.length_range]; exact h6.1, fun row hrow => ?_⟩
  obtain ⟨r, hr, rfl⟩ := List.mem_map.1 hrow
  have hr := List.mem_range.1 hr
  refine ⟨by rw [List.length_map, List.length_range]; exact h6.2, fun k hk => ?_⟩
  obtain ⟨c, hc, rfl⟩ := List.mem_map.1 hk
  have hc := List.mem_range.1 hc
  refine ⟨Int.natCast_nonneg _, ?_⟩
  have h1 : numAt (rows.getD 0 []).length (cellOf rows (rows.getD 0 []).length) (r * (rows.getD 0 []).length + c) ≤ r * (rows.getD 0 []).length + c := by
    unfold numAt
    exact Nat.le_trans List.idxOf_le_length (scan_len_le _ _ _)
  have h2 : r * (rows.getD 0 []).length ≤ 5 * 6 := Nat.mul_le_mul (by omega) h6.2
  omega
def PlanE (rows : List (List Int)) (w w' : World) (e : Ending) : Prop := (∃ A c, e = .returned (.tuple #[.slice A (planV rows).1.length c, .bool (planV rows).2]) ∧ (planV rows).1.length ≤ c ∧ Kd.C Kd.string w' A (planV rows).1.length (planV rows).1) ∧ Below w.heap.size w w'
theorem nil_C (W : World) : Kd.C Kd.string W none 0 [] := Kd.C_of_reads (d := ByteArray.empty) (enc := Value.string) (h1 := fun _ => rfl) ⟨rfl, Nat.zero_le _, fun h => absurd h (Nat.lt_irrefl 0)⟩
set_option maxRecDepth 100000 in
set_option maxHeartbeats 4000000 in
theorem plan_any (gb n : Nat) (rows : List (Nat × List Int)) (hl : rows.length = n) (hn : n ≤ 100) (w : World) (hg : GridAt w gb n rows) (hx : ∀ row ∈ rows.map Prod.snd, ∀ x ∈ row, (0 : Int) ≤ x ∧ x ≤ 1000) (hrl : ∀ row ∈ rows.map Prod.snd, row.length ≤ 100) :
    Calls Try.prog 142 #[.slice (some ⟨gb, 0, none⟩) n n] w fun e w' => PlanE (rows.map Prod.snd) w w' e := by
  have HST := settled_any gb n (rows.map Prod.snd) (by rw [List.length_map]; omega) w hg.in_ hx (fun row h => by have := hrl row h; omega)
  rw [List.length_map, hl] at HST
  obtain ⟨R, hR⟩ : ∃ R, rows.map Prod.snd = R := ⟨_, rfl⟩
  rw [hR] at HST ⊢
  clear hg hx hrl hR
  go_enter Try.func142, Try.ntmps142
  go_wp2_with fail
  refine HST.mono ?_
  rintro e w1 ⟨hb1, ⟨hsh, fb, rfl, hfl⟩ | ⟨hsh, rfl⟩⟩
  · have HB := Aside0.mk hb1
    cases hfu : fullB R with
    | false =>
      have HV : Aside0 (planV R = ([], false)) := ⟨by unfold planV; rw [hfu, Bool.and_false]; rfl⟩
      clear hsh hfl hb1 hfu
      go_wp2_with fail
      go_ret2
      exact ⟨⟨none, 0, by rw [HV.out]; rfl, by rw [HV.out]; exact Nat.le_refl _, by rw [HV.out]; exact nil_C _⟩, HB.out⟩
    | true =>
      have HV : Aside0 (planV R = ((numsOf R).map rowText, true)) := ⟨by unfold planV; rw [hsh, hfu]; rfl⟩
      have hshape : shapeB R = true := by simp only [Bool.and_eq_true] at hsh; exact hsh.1
      obtain ⟨hn1, hn2⟩ := nums_smallR hshape
      obtain ⟨g, hh, rv, rows', k1, k2, k3, k4, k5, k6⟩ := hfl
      have hrows : ∀ x ∈ rows', x.2.length ≤ 100 ∧ ∀ k ∈ x.2, (0 : Int) ≤ k ∧ k ≤ 100 := fun x hx => by
        have := hn2 x.2 (by rw [← k3]; exact List.mem_map_of_mem hx)
        exact ⟨by omega, this.2⟩
      have hh6 : hh ≤ 6 := by
        rw [← k4]
        have := congrArg List.length k3
        rw [List.length_map] at this
        omega
      have HTX := text_any fb g hh rv rows' w1 k1 k2 k4 (by omega) hrows
      have HSL : Aside0 (((rows'.map Prod.snd).map rowText).length = hh) := ⟨by rw [List.length_map, List.length_map, k4]⟩
      have HK3 := Aside0.mk k3
      clear k1 k2 k3 k4 k5 k6 hrows hn1 hn2 hshape hsh hfu hb1
      go_wp2_with fail
      refine HTX.mono ?_
      rintro e w2 ⟨rfl, hst, hb2⟩
      have HB2 := Aside0.mk hb2
      have HCS := Aside0.mk (StrsAt.reads hst HSL.out (by omega))
      clear hst hb2
      go_wp2_with fail
      go_ret2
      have hlen := HSL.out
      rw [HK3.out] at hlen
      have hC := HCS.out
      rw [HK3.out] at hC
      refine ⟨⟨some ⟨w1.heap.size, 0, none⟩, hh, ?_, ?_, ?_⟩, HB.out.trans (HB2.out.mono HB.out.size)⟩
      · rw [HV.out]
        show Ending.returned _ = Ending.returned (.tuple #[.slice _ ((numsOf R).map rowText).length _, .bool true])
        rw [hlen]; rfl
      · rw [HV.out]
        show ((numsOf R).map rowText).length ≤ hh
        omega
      · rw [HV.out]; exact hC
  · have HB := Aside0.mk hb1
    have HV : Aside0 (planV R = ([], false)) := ⟨by unfold planV; rw [hsh, Bool.false_and]; rfl⟩
    clear hsh hb1
    go_wp2_with fail
    go_ret2
    exact ⟨⟨none, 0, by rw [HV.out]; rfl, by rw [HV.out]; exact Nat.le_refl _, by rw [HV.out]; exact nil_C _⟩, HB.out⟩
def gridV (hi wd : Nat) (val : Nat → Nat → Int) : List (List Int) := (List.range hi).map fun r => (List.range wd).map fun c => val r c
def RemadeE (p : List ByteArray) (R : List (List Int)) (w w' : World) (e : Ending) : Prop := (∃ A c V, V = (if planG p then planV R else ([], false)) ∧ e = .returned (.tuple #[.slice A V.1.length c, .bool V.2]) ∧ V.1.length ≤ c ∧ Kd.C Kd.string w' A V.1.length V.1) ∧ Below w.heap.size w w'
set_option maxRecDepth 100000 in
set_option maxHeartbeats 8000000 in
theorem remade_any (fn : Nat) (hent : ∀ args W, (callFunc fn args).run Try.prog W = .ok (.enter fn args) W) (A : Option Addr) (cap : Nat) (p : List ByteArray) (hp : SmallP p) (hi wd : Nat) (val : Nat → Nat → Int) (hhi : planG p = true → hi ≤ 100 ∧ wd ≤ 100 ∧ ∀ r c, r < hi → c < wd → 0 ≤ val r c ∧ val r c ≤ 1000)
    (how : planG p = true → ∀ fb W, FloorR W fb p.length (wdP p) (clP p) (boxesP p) → Calls Try.prog fn #[.pointer (some ⟨fb, 0, none⟩)] W fun e w' => Grown W w' hi wd val e) (w : World) (hr0 : Kd.C Kd.string w A p.length p) (hc0 : p.length ≤ cap) :
    Calls Try.prog 84 #[.slice A p.length cap, .func (.func fn) #[] #[]] w fun e w' => RemadeE p (gridV hi wd val) w w' e := by
  have HFL := floorOf_any A cap p hp.1 hp.2 w hr0 hc0
  have HOW := Aside0.mk how
  have HHI := Aside0.mk hhi
  clear hr0 how hhi
  go_enter Try.func84, Try.ntmps84
  go_wp2_with fail
  refine HFL.mono ?_
  rintro e w1 ⟨hb1, ⟨hpl, fb, base, rfl, hbase, hfl⟩ | ⟨hpl, o, rfl⟩⟩
  · have HB1 := Aside0.mk hb1
    have HC := Aside0.mk (HOW.out hpl fb w1 hfl.reads)
    have HPL := Aside0.mk hpl
    obtain ⟨hv1, hv2, hv3⟩ := HHI.out hpl
    have HV3 := Aside0.mk hv3
    clear hb1 hpl hfl hv3
    go_wp2_with fail
    refine HC.out.mono ?_
    rintro e w2 ⟨gb, rows, rfl, g1, g2, g3⟩
    have HB2 := Aside0.mk (HB1.out.trans (g3.mono HB1.out.size))
    have hlen : rows.length = hi := by have := congrArg List.length g1; simpa using this
    have hcell : ∀ row ∈ rows.map Prod.snd, row.length ≤ 100 ∧ ∀ x ∈ row, (0 : Int) ≤ x ∧ x ≤ 1000 := fun row hrow => by
      rw [g1] at hrow
      obtain ⟨r, hr, rfl⟩ := List.mem_map.1 hrow
      refine ⟨by rw [List.length_map, List.length_range]; omega, fun x hx => ?_⟩
      obtain ⟨c, hc, rfl⟩ := List.mem_map.1 hx
      exact HV3.out r c (List.mem_range.1 hr) (List.mem_range.1 hc)
    have HPN := plan_any gb hi rows hlen hv1 w2 g2 (fun row h => (hcell row h).2) (fun row h => (hcell row h).1)
    rw [g1] at HPN
    clear g1 g2 g3 hcell hlen
    go_wp2_with fail
    refine HPN.mono ?_
    rintro e w3 ⟨⟨A3, c3, rfl, h1, h2⟩, hb3⟩
    have HB3 := Aside0.mk (HB2.out.trans (hb3.mono HB2.out.size))
    have HC3 := Aside0.mk (And.intro h1 h2)
    clear h1 h2 hb3
    go_wp2_with fail
    go_ret2
    exact ⟨⟨A3, c3, planV (gridV hi wd val), by rw [if_pos HPL.out], rfl, HC3.out.1, HC3.out.2⟩, HB3.out⟩
  · have HB1 := Aside0.mk hb1
    have HPL := Aside0.mk hpl
    clear hb1 hpl
    go_wp2_with fail
    go_ret2
    exact ⟨⟨none, 0, ([], false), by rw [HPL.out]; rfl, rfl, Nat.le_refl _, nil_C _⟩, HB1.out⟩
theorem enter_fl (args : Array Value) (W : World) : (callFunc 85 args).run Try.prog W = .ok (.enter 85 args) W := by kernel_rfl
def flipR (p : List ByteArray) : List (List Int) := gridV p.length (wdP p) fun r c => clP p r (wdP p - 1 - c)
theorem clP_small {p : List ByteArray} (h : planG p = true) {i j : Nat} (hi : i < p.length) (hj : j < wdP p) : 0 ≤ clP p i j ∧ clP p i j ≤ 1000 := by
  obtain ⟨k, hk, e⟩ := (planFlat h).num i j hi hj
  have := (planFlat h).few
  omega
set_option maxHeartbeats 4000000 in
theorem planFlip_any (A : Option Addr) (cap : Nat) (p : List ByteArray) (hp : SmallP p) (w : World) (hr0 : Kd.C Kd.string w A p.length p) (hc0 : p.length ≤ cap) :
    Calls Try.prog 28 #[.slice A p.length cap] w fun e w' => RemadeE p (flipR p) w w' e := by
  have HR := remade_any 85 enter_fl A cap p hp p.length (wdP p) (fun r c => clP p r (wdP p - 1 - c))
    (fun h => ⟨by have := (planFlat h).high; omega, by have := (planFlat h).wide; omega, fun r c hr hc => clP_small h hr (by omega)⟩)
    (fun h fb W hF => flipped_any fb p.length (wdP p) (clP p) (boxesP p) (planFlat h).high (planFlat h).wide W hF) w hr0 hc0
  clear hr0
  go_enter Try.func28, Try.ntmps28
  go_wp2_with fail
  refine HR.mono ?_
  rintro e w1 ⟨⟨A1, c1, ⟨V, b⟩, hv, rfl, h1, h2⟩, hb⟩
  have HC := Aside0.mk (And.intro hv (And.intro h1 (And.intro h2 hb)))
  clear hv h1 h2 hb
  dsimp only
  go_wp2_with fail
  go_ret2
  exact ⟨⟨A1, c1, (V, b), HC.out.1, rfl, HC.out.2.1, HC.out.2.2.1⟩, HC.out.2.2.2⟩
end Go.Proofs.Ytbpppchkgjcahaa
end
section
namespace Go.Proofs.Ytbpppchkgjcahaa
open Go.RowKit Go.Shelf Go.Proofs.YtbpppchkgjcahaaW.PrintWords Go.Proofs.YtbpppchkgjcahaaW.PrintMore
set_option linter.unusedVariables false
end Go.Proofs.Ytbpppchkgjcahaa
end
section
namespace Go.Proofs.Ytbpppchkgjcahaa
open Go.RowKit Go.Shelf Go.Proofs.YtbpppchkgjcahaaW.PrintWords Go.Proofs.YtbpppchkgjcahaaW.PrintMore
set_option linter.unusedVariables false
set_option linter.unusedSimpArgs false
end Go.Proofs.Ytbpppchkgjcahaa
end
section
namespace Go.Proofs.Ytbpppchkgjcahaa
open Go.RowKit Go.Shelf Go.Proofs.YtbpppchkgjcahaaW.PrintWords Go.Proofs.YtbpppchkgjcahaaW.PrintMore
set_option linter.unusedVariables false
set_option linter.unusedSimpArgs false
end Go.Proofs.Ytbpppchkgjcahaa
end
section
namespace Go.Proofs.Ytbpppchkgjcahaa
open Go.RowKit Go.Shelf Go.Proofs.YtbpppchkgjcahaaW.PrintWords Go.Proofs.YtbpppchkgjcahaaW.PrintMore
set_option linter.unusedVariables false
set_option linter.unusedSimpArgs false
def BoxFl (h wd : Nat) (B : Box) : Prop := ∃ r c ph pw : Nat, B = natB r c ph pw ∧ 1 ≤ ph ∧ 1 ≤ pw ∧ r + ph ≤ h ∧ c + pw ≤ wd
theorem BoxFl.in_ {h wd : Nat} {A : Box} (ha : BoxFl h wd A) (hh : h ≤ 6) (hw : wd ≤ 6) : BoxIn A ∧ 1 ≤ areaB A ∧ areaB A ≤ 36 := by
  obtain ⟨a1, a2, a3, a4, rfl, a5, a6, a7, a8⟩ := ha
  refine ⟨?_, ?_⟩
  · unfold BoxIn natB
    simp only
    omega
  · show 1 ≤ ((a3 : Int) * (a4 : Int)) ∧ ((a3 : Int) * (a4 : Int)) ≤ 36
    have h1 : a3 * a4 ≤ 6 * 6 := Nat.mul_le_mul (by omega) (by omega)
    have h2 : 1 * 1 ≤ a3 * a4 := Nat.mul_le_mul a5 a6
    rw [← Int.natCast_mul]
    omega
end Go.Proofs.Ytbpppchkgjcahaa
end
section
namespace Go.Proofs.Ytbpppchkgjcahaa
open Go.RowKit Go.Shelf Go.Proofs.YtbpppchkgjcahaaW.PrintWords Go.Proofs.YtbpppchkgjcahaaW.PrintMore
set_option linter.unusedVariables false
end Go.Proofs.Ytbpppchkgjcahaa
end
section
namespace Go.Proofs.Ytbpppchkgjcahaa
open Go.RowKit Go.Shelf Go.Proofs.YtbpppchkgjcahaaW.PrintWords Go.Proofs.YtbpppchkgjcahaaW.PrintMore
set_option linter.unusedVariables false
end Go.Proofs.Ytbpppchkgjcahaa
end
section
namespace Go.Proofs.Ytbpppchkgjcahaa
open Go.RowKit Go.Shelf Go.Proofs.YtbpppchkgjcahaaW.PrintWords Go.Proofs.YtbpppchkgjcahaaW.PrintMore
set_option linter.unusedVariables false
set_option linter.unusedSimpArgs false
def cnt1 (P : Nat → Prop) [DecidablePred P] : Nat → Nat
  | 0 => 0
  | n + 1 => cnt1 P n + if P n then 1 else 0
section
variable {P Q : Nat → Prop} [DecidablePred P] [DecidablePred Q]
theorem cnt1_int (a d : Nat) (n : Nat) : cnt1 (fun i => a ≤ i ∧ i < a + d) n = min n (a + d) - min n a := by
  induction n with
  | zero => simp [cnt1]
  | succ n ih =>
    unfold cnt1
    rw [ih]
    by_cases h : a ≤ n ∧ n < a + d
    · rw [if_pos h]; omega
    · rw [if_neg h]; omega
end
def sumR (g : Nat → Nat) : Nat → Nat
  | 0 => 0
  | n + 1 => sumR g n + g n
theorem sumR_congr {g k : Nat → Nat} (n : Nat) (h : ∀ i, i < n → g i = k i) : sumR g n = sumR k n := by
  induction n with
  | zero => rfl
  | succ n ih => unfold sumR; rw [ih (fun i hi => h i (by omega)), h n (by omega)]
theorem sumR_box (a d e : Nat) (n : Nat) : sumR (fun i => if a ≤ i ∧ i < a + d then e else 0) n = (min n (a + d) - min n a) * e := by
  induction n with
  | zero => simp [sumR]
  | succ n ih =>
    unfold sumR
    rw [ih]
    by_cases h : a ≤ n ∧ n < a + d
    · rw [if_pos h, show min (n + 1) (a + d) - min (n + 1) a = (min n (a + d) - min n a) + 1 by omega, Nat.succ_mul]
    · rw [if_neg h, show min (n + 1) (a + d) - min (n + 1) a = min n (a + d) - min n a by omega]; rfl
theorem cnt1_congr {P Q : Nat → Prop} [DecidablePred P] [DecidablePred Q] (n : Nat) (h : ∀ i, i < n → (P i ↔ Q i)) : cnt1 P n = cnt1 Q n := by
  induction n with
  | zero => rfl
  | succ n ih =>
    unfold cnt1
    rw [ih (fun i hi => h i (by omega))]
    by_cases hp : P n
    · rw [if_pos hp, if_pos ((h n (by omega)).1 hp)]
    · rw [if_neg hp, if_neg (fun hq => hp ((h n (by omega)).2 hq))]
theorem cnt1_none {P : Nat → Prop} [DecidablePred P] (n : Nat) (h : ∀ i, i < n → ¬ P i) : cnt1 P n = 0 := by
  induction n with
  | zero => rfl
  | succ n ih => unfold cnt1; rw [ih (fun i hi => h i (by omega)), if_neg (h n (by omega))]
theorem cells_room {cl : Nat → Nat → Int} {boxes : List Box} {h wd r c ph pw : Nat} (f : Flat cl boxes h wd) (hr : r + ph ≤ h) (hc : c + pw ≤ wd) (k : Nat) (hk : k < boxes.length) (hin : bothB (natB r c ph pw) boxes[k] = natB r c ph pw) :
    ((sumR (fun i => cnt1 (fun j => cl (r + i) (c + j) = (k : Int)) pw) ph : Nat) : Int) = areaB boxes[k] := by
  obtain ⟨a, b, d, e, hb, h1, h2, h3, h4, hcl⟩ := f.box k hk
  rw [hb, both_within] at hin
  rw [hb]
  have e1 : sumR (fun i => cnt1 (fun j => cl (r + i) (c + j) = (k : Int)) pw) ph = sumR (fun i => if a - r ≤ i ∧ i < a - r + d then e else 0) ph := by
    refine sumR_congr ph fun i hi => ?_
    by_cases hio : a - r ≤ i ∧ i < a - r + d
    · rw [if_pos hio, cnt1_congr (Q := fun j => b - c ≤ j ∧ j < b - c + e) pw (fun j hj => by rw [hcl (r + i) (c + j) (by omega) (by omega)]; omega), cnt1_int]
      omega
    · rw [if_neg hio]
      exact cnt1_none pw (fun j hj hcj => by rw [hcl (r + i) (c + j) (by omega) (by omega)] at hcj; omega)
  rw [e1, sumR_box, show min ph (a - r + d) - min ph (a - r) = d by omega]
  show ((d * e : Nat) : Int) = (d : Int) * (e : Int)
  rw [Int.natCast_mul]
end Go.Proofs.Ytbpppchkgjcahaa
end
