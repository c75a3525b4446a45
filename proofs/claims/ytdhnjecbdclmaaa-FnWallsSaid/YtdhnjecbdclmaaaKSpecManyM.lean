/- Texts of this claim's, joined by a program: SpecMany, PlanRooms, Turn, PlanTurn, ListOwn, CutStuckS, CutStuck, StuckBy, WaysP, Hered, Tile. -/
import Derived.Test.YtdhnjecbdclmaaaKWallMany
import Derived.Test.YtdhnjecbdclmaaaKFloorRM
section
/- The reference's WallMany. -/
namespace Go.Proofs.Ytdhnjecbdclmaaa
open Go.RowKit Go.Shelf Go.Proofs.YtdhnjecbdclmaaaW.PrintWords Go.Proofs.YtdhnjecbdclmaaaW.PrintMore
set_option linter.unusedVariables false
set_option linter.unusedSimpArgs false

set_option maxHeartbeats 4000000 in
theorem specWallMany_any (A : Option Addr) (cap : Nat) (p : List ByteArray) (hp : SmallP p) (w : World) (hr0 : Kd.C Kd.string w A p.length p) (hc0 : p.length ≤ cap) :
    Calls Try.prog 74 #[.slice A p.length cap] w fun e w' => e = .returned (.tuple #[.int .i64 (manyP p).1.1, .int .i64 (manyP p).1.2, .bool (manyP p).2]) ∧ Below w.heap.size w w' := by
  have HPI := Aside0.mk (fun W (hW : Below w.heap.size w W) => spec_PlanIn.calls A cap p (planG p) W (Kd.C_below hr0 hW) hc0 (by unfold spec_PlanIn.f; rw [if_pos hp]))
  by_cases hpl : planG p = true
  · obtain ⟨k1, hk1⟩ := (up_f (planTG hpl)).ex
    obtain ⟨k2, hk2⟩ := (trans_f (planTG hpl)).ex
    obtain ⟨k3, hk3⟩ := (up_f (trans_TG (planTG hpl))).ex
    have n1 := up_count (clP p) p.length (wdP p)
    have n2 := lv_count (clP p) p.length (wdP p)
    have hval : manyP p = ((((upN (clP p) p.length (wdP p) : Nat) : Int), ((lvN (clP p) p.length (wdP p) : Nat) : Int)), true) := by unfold manyP; rw [if_pos hpl]
    obtain ⟨U, hU⟩ : ∃ U, upL (gridOf (clP p) 0 0) p.length 1 (wdP p - 1) = U := ⟨_, rfl⟩
    obtain ⟨V, hV⟩ : ∃ U, upL (fun i j => gridOf (clP p) 0 0 j i) (wdP p) 1 (p.length - 1) = U := ⟨_, rfl⟩
    obtain ⟨q, hq⟩ : ∃ q, transT p.length (wdP p) (gridOf (clP p) 0 0) = q := ⟨_, rfl⟩
    rw [hU] at hk1 n1
    rw [hV] at hk3 n2
    rw [hq] at hk2 hk3
    rw [← n1, ← n2] at hval
    have HV := Aside0.mk hval
    have H1 := Aside0.mk (fun W (hW : Below w.heap.size w W) => L3.spec_l2Upright.calls k1 A cap p U W (Kd.C_below hr0 hW) hc0 hk1)
    have H2 := Aside0.mk (fun W (hW : Below w.heap.size w W) => L3.spec_l1Trans.calls k2 A cap p q W (Kd.C_below hr0 hW) hc0 hk2)
    have H3 := Aside0.mk (fun (B : Option Addr) (c : Nat) W (h1 : Kd.C Kd.string W B q.length q) (h2 : q.length ≤ c) => L3.spec_l2Upright.calls k3 B c q V W h1 h2 hk3)
    rw [hpl] at HPI
    clear hr0 hpl hk1 hk2 hk3 n1 n2 hval hU hV hq
    go_enter Try.func74, Try.ntmps74
    go_wp2_with fail
    refine (HPI.out _ (Below.refl _ _)).mono ?_
    rintro e w1 ⟨rfl, hb1⟩
    have HB1 := Aside0.mk hb1
    clear hb1
    go_wp2_with fail
    refine (H1.out _ HB1.out).mono ?_
    rintro e w2 ⟨v2, rfl, ho2, hb2⟩
    have HB2 := Aside0.mk (HB1.out.trans (hb2.mono HB1.out.size))
    obtain ⟨A2, c2, rfl⟩ := Kd.S_slice ho2
    clear hb2 ho2
    go_wp2_with fail
    refine (H2.out _ HB2.out).mono ?_
    rintro e w3 ⟨v3, rfl, ho3, hb3⟩
    have HB3 := Aside0.mk (HB2.out.trans (hb3.mono HB2.out.size))
    obtain ⟨A3, c3, rfl⟩ := Kd.R_slice ho3
    have HC3 := Aside0.mk (Kd.R_reads' ho3)
    clear hb3 ho3
    go_wp2_with fail
    refine (H3.out A3 c3 w3 HC3.out.2.2 HC3.out.2.1).mono ?_
    rintro e w4 ⟨v4, rfl, ho4, hb4⟩
    have HB4 := Aside0.mk (HB3.out.trans (hb4.mono HB3.out.size))
    obtain ⟨A4, c4, rfl⟩ := Kd.S_slice ho4
    clear hb4 ho4
    go_wp2_with fail
    go_ret3
    exact ⟨by rw [HV.out]; rfl, HB4.out⟩
  · have hplf : planG p = false := by simpa using hpl
    have HV : Aside0 (manyP p = ((0, 0), false)) := ⟨by unfold manyP; rw [hplf]; rfl⟩
    rw [hplf] at HPI
    clear hr0 hpl hplf
    go_enter Try.func74, Try.ntmps74
    go_wp2_with fail
    refine (HPI.out _ (Below.refl _ _)).mono ?_
    rintro e w1 ⟨rfl, hb1⟩
    have HB1 := Aside0.mk hb1
    clear hb1
    go_wp2_with fail
    go_ret3
    exact ⟨by rw [HV.out]; rfl, HB1.out⟩
end Go.Proofs.Ytdhnjecbdclmaaa
end
section
/- PlanRooms, both sides. -/
namespace Go.Proofs.Ytdhnjecbdclmaaa
open Go.RowKit Go.Shelf Go.Proofs.YtdhnjecbdclmaaaW.PrintWords Go.Proofs.YtdhnjecbdclmaaaW.PrintMore
set_option linter.unusedVariables false
set_option linter.unusedSimpArgs false

def roomsP (p : List ByteArray) : Int × Bool := if planG p then (((boxesP p).length : Int), true) else (0, false)
set_option maxHeartbeats 4000000 in
theorem planRooms_any (A : Option Addr) (cap : Nat) (p : List ByteArray) (hp : SmallP p) (w : World) (hr0 : Kd.C Kd.string w A p.length p) (hc0 : p.length ≤ cap) :
    Calls Try.prog 46 #[.slice A p.length cap] w fun e w' => e = .returned (.tuple #[.int .i64 (roomsP p).1, .bool (roomsP p).2]) ∧ Below w.heap.size w w' := by
  have HFL := floorOf_any A cap p hp.1 hp.2 w hr0 hc0
  clear hr0
  go_enter Try.func46, Try.ntmps46
  go_wp2_with fail
  refine HFL.mono ?_
  rintro e w1 ⟨hb1, ⟨hpl, fb, base, rfl, hbase, hfl⟩ | ⟨hpl, o, rfl⟩⟩
  · have HB1 := Aside0.mk hb1
    obtain ⟨g, rb, RA, rc, h1, h2, h3, h4, h5, h6⟩ := hfl.reads
    have HV : Aside0 (roomsP p = (((boxesP p).length : Int), true)) := ⟨by unfold roomsP; rw [if_pos hpl]⟩
    clear hb1 hpl hfl h5 h6
    go_wp2_with fail
    go_ret2
    exact ⟨by rw [HV.out]; rfl, HB1.out⟩
  · have HB1 := Aside0.mk hb1
    have HV : Aside0 (roomsP p = (0, false)) := ⟨by unfold roomsP; rw [hpl]; rfl⟩
    clear hb1 hpl
    go_wp2_with fail
    go_ret2
    exact ⟨by rw [HV.out]; rfl, HB1.out⟩
end Go.Proofs.Ytdhnjecbdclmaaa
end
section
/- The program's turned and flipped: the cells of a plan seen otherwise. -/
namespace Go.Proofs.Ytdhnjecbdclmaaa
open Go.RowKit Go.Shelf Go.Proofs.YtdhnjecbdclmaaaW.PrintWords Go.Proofs.YtdhnjecbdclmaaaW.PrintMore
set_option linter.unusedVariables false
set_option linter.unusedSimpArgs false

/-- A grid made of a plan's cells, new since w. -/
def Grown (w w' : World) (hi wd : Nat) (val : Nat → Nat → Int) (e : Ending) : Prop := ∃ (gb : Nat) (rows : List (Nat × List Int)), e = .returned (.slice (some ⟨gb, 0, none⟩) hi hi) ∧ rows.map Prod.snd = (List.range hi).map (fun r => (List.range wd).map fun c => val r c) ∧ GridAt w' gb hi rows ∧ Below w.heap.size w w'
theorem div_at {wd r c : Nat} (hc : c < wd) : (r * wd + c) / wd = r ∧ (r * wd + c) % wd = c := by
  have h0 : 0 < wd := by omega
  refine ⟨?_, ?_⟩
  · rw [Nat.mul_comm, Nat.mul_add_div h0, Nat.div_eq_of_lt hc, Nat.add_zero]
  · rw [Nat.mul_comm, Nat.mul_add_mod, Nat.mod_eq_of_lt hc]
theorem spares_of {hb : Nat} {W W' : World} (h : Below W.heap.size W W') : Spares hb W W' := fun j cs t _ hj _ => by
  rw [h.block j (Array.getElem?_eq_some_iff.1 hj).1]; exact hj
/-- blank with a function that only reads. -/
theorem blank_ro (hi wd : Nat) (hhi : 1 ≤ hi ∧ hi ≤ 100) (hwd : 1 ≤ wd ∧ wd ≤ 100) (cl : Nat) (cap : Array Value) (val : Nat → Nat → Int) (w : World)
    (hent : ∀ args W, (callFunc cl args).run Try.prog W = .ok (.enter cl args) W)
    (hcall : ∀ r c W, r < hi → c < wd → Below w.heap.size w W → Calls Try.prog cl (#[.int .i64 r, .int .i64 c] ++ cap) W fun e W' => e = .returned (.int .i64 (val r c)) ∧ Below W.heap.size W W') :
    Calls Try.prog 116 #[.int .i64 hi, .int .i64 wd, .func (.func cl) #[] cap] w fun e w' => Grown w w' hi wd val e := by
  refine (blank_any hi wd hhi hwd cl cap (fun n => val (n / wd) (n % wd)) w.heap.size w (Nat.le_refl _) (fun _ _ => True) trivial (fun _ _ _ _ _ _ => trivial) hent ?_).mono ?_
  · intro r c W hr hc _ hB
    refine (hcall r c W hr hc hB).mono ?_
    rintro e W' ⟨rfl, hb⟩
    refine ⟨?_, trivial, hb.mono hB.size, spares_of hb⟩
    show _ = Ending.returned (.int .i64 (val ((r * wd + c) / wd) ((r * wd + c) % wd)))
    rw [(div_at hc).1, (div_at hc).2]
  · rintro e w' ⟨rows, rfl, h1, h2, _, _, h3⟩
    refine ⟨_, rows, rfl, h1.trans ?_, h2, h3⟩
    refine List.map_congr_left fun r _ => List.map_congr_left fun c hc => ?_
    have hc := List.mem_range.1 hc
    rw [(div_at hc).1, (div_at hc).2]
end Go.Proofs.Ytdhnjecbdclmaaa
end
section
/- The program's plan of a grid, remade, PlanTurn and PlanFlip. -/
namespace Go.Proofs.Ytdhnjecbdclmaaa
open Go.RowKit Go.Shelf Go.Proofs.YtdhnjecbdclmaaaW.PrintWords Go.Proofs.YtdhnjecbdclmaaaW.PrintMore
set_option linter.unusedVariables false
set_option linter.unusedSimpArgs false

theorem GridAt.in_ {W : World} {g n : Nat} {rows : List (Nat × List Int)} (h : GridAt W g n rows) : GridIn W g (rows.map Prod.snd) := by
  refine ⟨_, h.1, fun r row hr => ?_⟩
  rw [List.getElem?_map] at hr
  obtain ⟨⟨a, xs⟩, h1, rfl⟩ := Option.map_eq_some_iff.1 hr
  obtain ⟨hl, hg⟩ := List.getElem?_eq_some_iff.1 h1
  refine ⟨a, xs.length, ?_, _, h.2 _ (List.mem_of_getElem? h1), fun c x hx => ?_⟩
  · rw [List.getElem?_toArray, List.getElem?_append_left (by rw [List.length_map]; exact hl), List.getElem?_map, h1]
    rfl
  · rw [List.getElem?_toArray, List.getElem?_map]
    show Option.map _ xs[c]? = _
    rw [hx]; rfl
/-- What plan answers for a grid. -/
def planV (rows : List (List Int)) : List ByteArray × Bool := if (shapeB rows && decide ((scanOf rows).2.length ≤ 9)) && fullB rows then ((numsOf rows).map rowText, true) else ([], false)
theorem nums_smallR {rows : List (List Int)} (hs : shapeB rows = true) : (numsOf rows).length ≤ 6 ∧ ∀ row ∈ numsOf rows, row.length ≤ 6 ∧ ∀ k ∈ row, (0 : Int) ≤ k ∧ k ≤ 100 := by
  have h6 : rows.length ≤ 6 ∧ (rows.getD 0 []).length ≤ 6 := by
    unfold shapeB at hs
    simp only [Bool.and_eq_true, decide_eq_true_eq] at hs
    exact ⟨hs.1.1.1.2, hs.1.2⟩
  unfold numsOf
  refine ⟨by rw [List.length_map, List.length_range]; exact h6.1, fun row hrow => ?_⟩
  obtain ⟨r, hr, rfl⟩ := List.mem_map.1 hrow
  have hr := List.mem_range.1 hr
  refine ⟨by rw [List.length_map, List.length_range]; exact h6.2, fun k hk => ?_⟩
  obtain ⟨c, hc, rfl⟩ := List.mem_map.1 hk
  have hc := List.mem_range.1 hc
  refine ⟨Int.natCast_nonneg _, ?_⟩
  have h1 : numAt (rows.getD 0 []).length (cellOf rows (rows.getD 0 []).length) (r * (rows.getD 0 []).length + c) ≤ r * (rows.getD 0 []).length + c := by
    unfold numAt
    exact Nat.le_trans List.idxOf_le_length (scan_len_le _ _ _)
  have h2 : r * (rows.getD 0 []).length ≤ 5 * 6 := Nat.mul_le_mul (by omega) h6.2
  omega
/-- What plan hands back. -/
def PlanE (rows : List (List Int)) (w w' : World) (e : Ending) : Prop := (∃ A c, e = .returned (.tuple #[.slice A (planV rows).1.length c, .bool (planV rows).2]) ∧ (planV rows).1.length ≤ c ∧ Kd.C Kd.string w' A (planV rows).1.length (planV rows).1) ∧ Below w.heap.size w w'
theorem nil_C (W : World) : Kd.C Kd.string W none 0 [] := Kd.C_of_reads (d := ByteArray.empty) (enc := Value.string) (h1 := fun _ => rfl) ⟨rfl, Nat.zero_le _, fun h => absurd h (Nat.lt_irrefl 0)⟩
set_option maxRecDepth 100000 in
set_option maxHeartbeats 4000000 in
theorem plan_any (gb n : Nat) (rows : List (Nat × List Int)) (hl : rows.length = n) (hn : n ≤ 100) (w : World) (hg : GridAt w gb n rows) (hx : ∀ row ∈ rows.map Prod.snd, ∀ x ∈ row, (0 : Int) ≤ x ∧ x ≤ 1000) (hrl : ∀ row ∈ rows.map Prod.snd, row.length ≤ 100) :
    Calls Try.prog 181 #[.slice (some ⟨gb, 0, none⟩) n n] w fun e w' => PlanE (rows.map Prod.snd) w w' e := by
  have HST := settled_any gb n (rows.map Prod.snd) (by rw [List.length_map]; omega) w hg.in_ hx (fun row h => by have := hrl row h; omega)
  rw [List.length_map, hl] at HST
  obtain ⟨R, hR⟩ : ∃ R, rows.map Prod.snd = R := ⟨_, rfl⟩
  rw [hR] at HST ⊢
  clear hg hx hrl hR
  go_enter Try.func181, Try.ntmps181
  go_wp2_with fail
  refine HST.mono ?_
  rintro e w1 ⟨hb1, ⟨hsh, fb, rfl, hfl⟩ | ⟨hsh, rfl⟩⟩
  · have HB := Aside0.mk hb1
    cases hfu : fullB R with
    | false =>
      have HV : Aside0 (planV R = ([], false)) := ⟨by unfold planV; rw [hfu, Bool.and_false]; rfl⟩
      clear hsh hfl hb1 hfu
      go_wp2_with fail
      go_ret2
      exact ⟨⟨none, 0, by rw [HV.out]; rfl, by rw [HV.out]; exact Nat.le_refl _, by rw [HV.out]; exact nil_C _⟩, HB.out⟩
    | true =>
      have HV : Aside0 (planV R = ((numsOf R).map rowText, true)) := ⟨by unfold planV; rw [hsh, hfu]; rfl⟩
      have hshape : shapeB R = true := by simp only [Bool.and_eq_true] at hsh; exact hsh.1
      obtain ⟨hn1, hn2⟩ := nums_smallR hshape
      obtain ⟨g, hh, rv, rows', k1, k2, k3, k4, k5, k6⟩ := hfl
      have hrows : ∀ x ∈ rows', x.2.length ≤ 100 ∧ ∀ k ∈ x.2, (0 : Int) ≤ k ∧ k ≤ 100 := fun x hx => by
        have := hn2 x.2 (by rw [← k3]; exact List.mem_map_of_mem hx)
        exact ⟨by omega, this.2⟩
      have hh6 : hh ≤ 6 := by
        rw [← k4]
        have := congrArg List.length k3
        rw [List.length_map] at this
        omega
      have HTX := text_any fb g hh rv rows' w1 k1 k2 k4 (by omega) hrows
      have HSL : Aside0 (((rows'.map Prod.snd).map rowText).length = hh) := ⟨by rw [List.length_map, List.length_map, k4]⟩
      have HK3 := Aside0.mk k3
      clear k1 k2 k3 k4 k5 k6 hrows hn1 hn2 hshape hsh hfu hb1
      go_wp2_with fail
      refine HTX.mono ?_
      rintro e w2 ⟨rfl, hst, hb2⟩
      have HB2 := Aside0.mk hb2
      have HCS := Aside0.mk (StrsAt.reads hst HSL.out (by omega))
      clear hst hb2
      go_wp2_with fail
      go_ret2
      have hlen := HSL.out
      rw [HK3.out] at hlen
      have hC := HCS.out
      rw [HK3.out] at hC
      refine ⟨⟨some ⟨w1.heap.size, 0, none⟩, hh, ?_, ?_, ?_⟩, HB.out.trans (HB2.out.mono HB.out.size)⟩
      · rw [HV.out]
        show Ending.returned _ = Ending.returned (.tuple #[.slice _ ((numsOf R).map rowText).length _, .bool true])
        rw [hlen]; rfl
      · rw [HV.out]
        show ((numsOf R).map rowText).length ≤ hh
        omega
      · rw [HV.out]; exact hC
  · have HB := Aside0.mk hb1
    have HV : Aside0 (planV R = ([], false)) := ⟨by unfold planV; rw [hsh, Bool.false_and]; rfl⟩
    clear hsh hb1
    go_wp2_with fail
    go_ret2
    exact ⟨⟨none, 0, by rw [HV.out]; rfl, by rw [HV.out]; exact Nat.le_refl _, by rw [HV.out]; exact nil_C _⟩, HB.out⟩
/-- The grid that a function makes of a plan. -/
def gridV (hi wd : Nat) (val : Nat → Nat → Int) : List (List Int) := (List.range hi).map fun r => (List.range wd).map fun c => val r c
/-- What remade hands back. -/
def RemadeE (p : List ByteArray) (R : List (List Int)) (w w' : World) (e : Ending) : Prop := (∃ A c V, V = (if planG p then planV R else ([], false)) ∧ e = .returned (.tuple #[.slice A V.1.length c, .bool V.2]) ∧ V.1.length ≤ c ∧ Kd.C Kd.string w' A V.1.length V.1) ∧ Below w.heap.size w w'
set_option maxRecDepth 100000 in
set_option maxHeartbeats 8000000 in
theorem remade_any (fn : Nat) (hent : ∀ args W, (callFunc fn args).run Try.prog W = .ok (.enter fn args) W) (A : Option Addr) (cap : Nat) (p : List ByteArray) (hp : SmallP p) (hi wd : Nat) (val : Nat → Nat → Int) (hhi : planG p = true → hi ≤ 100 ∧ wd ≤ 100 ∧ ∀ r c, r < hi → c < wd → 0 ≤ val r c ∧ val r c ≤ 1000)
    (how : planG p = true → ∀ fb W, FloorR W fb p.length (wdP p) (clP p) (boxesP p) → Calls Try.prog fn #[.pointer (some ⟨fb, 0, none⟩)] W fun e w' => Grown W w' hi wd val e) (w : World) (hr0 : Kd.C Kd.string w A p.length p) (hc0 : p.length ≤ cap) :
    Calls Try.prog 106 #[.slice A p.length cap, .func (.func fn) #[] #[]] w fun e w' => RemadeE p (gridV hi wd val) w w' e := by
  have HFL := floorOf_any A cap p hp.1 hp.2 w hr0 hc0
  have HOW := Aside0.mk how
  have HHI := Aside0.mk hhi
  clear hr0 how hhi
  go_enter Try.func106, Try.ntmps106
  go_wp2_with fail
  refine HFL.mono ?_
  rintro e w1 ⟨hb1, ⟨hpl, fb, base, rfl, hbase, hfl⟩ | ⟨hpl, o, rfl⟩⟩
  · have HB1 := Aside0.mk hb1
    have HC := Aside0.mk (HOW.out hpl fb w1 hfl.reads)
    have HPL := Aside0.mk hpl
    obtain ⟨hv1, hv2, hv3⟩ := HHI.out hpl
    have HV3 := Aside0.mk hv3
    clear hb1 hpl hfl hv3
    go_wp2_with fail
    refine HC.out.mono ?_
    rintro e w2 ⟨gb, rows, rfl, g1, g2, g3⟩
    have HB2 := Aside0.mk (HB1.out.trans (g3.mono HB1.out.size))
    have hlen : rows.length = hi := by have := congrArg List.length g1; simpa using this
    have hcell : ∀ row ∈ rows.map Prod.snd, row.length ≤ 100 ∧ ∀ x ∈ row, (0 : Int) ≤ x ∧ x ≤ 1000 := fun row hrow => by
      rw [g1] at hrow
      obtain ⟨r, hr, rfl⟩ := List.mem_map.1 hrow
      refine ⟨by rw [List.length_map, List.length_range]; omega, fun x hx => ?_⟩
      obtain ⟨c, hc, rfl⟩ := List.mem_map.1 hx
      exact HV3.out r c (List.mem_range.1 hr) (List.mem_range.1 hc)
    have HPN := plan_any gb hi rows hlen hv1 w2 g2 (fun row h => (hcell row h).2) (fun row h => (hcell row h).1)
    rw [g1] at HPN
    clear g1 g2 g3 hcell hlen
    go_wp2_with fail
    refine HPN.mono ?_
    rintro e w3 ⟨⟨A3, c3, rfl, h1, h2⟩, hb3⟩
    have HB3 := Aside0.mk (HB2.out.trans (hb3.mono HB2.out.size))
    have HC3 := Aside0.mk (And.intro h1 h2)
    clear h1 h2 hb3
    go_wp2_with fail
    go_ret2
    exact ⟨⟨A3, c3, planV (gridV hi wd val), by rw [if_pos HPL.out], rfl, HC3.out.1, HC3.out.2⟩, HB3.out⟩
  · have HB1 := Aside0.mk hb1
    have HPL := Aside0.mk hpl
    clear hb1 hpl
    go_wp2_with fail
    go_ret2
    exact ⟨⟨none, 0, ([], false), by rw [HPL.out]; rfl, rfl, Nat.le_refl _, nil_C _⟩, HB1.out⟩
theorem clP_small {p : List ByteArray} (h : planG p = true) {i j : Nat} (hi : i < p.length) (hj : j < wdP p) : 0 ≤ clP p i j ∧ clP p i j ≤ 1000 := by
  obtain ⟨k, hk, e⟩ := (planFlat h).num i j hi hj
  have := (planFlat h).few
  omega
end Go.Proofs.Ytdhnjecbdclmaaa
end
section
/- part.list with its row as one of the call's own (a copy of list_any's walk, with another end). -/
namespace Go.Proofs.Ytdhnjecbdclmaaa
open Go.RowKit Go.Shelf Go.Proofs.YtdhnjecbdclmaaaW.PrintWords Go.Proofs.YtdhnjecbdclmaaaW.PrintMore
set_option linter.unusedVariables false
end Go.Proofs.Ytdhnjecbdclmaaa
end
section
/- The reference's CutStuck, walked by hand. -/
namespace Go.Proofs.Ytdhnjecbdclmaaa
open Go.RowKit Go.Shelf Go.Proofs.YtdhnjecbdclmaaaW.PrintWords Go.Proofs.YtdhnjecbdclmaaaW.PrintMore
set_option linter.unusedVariables false
set_option linter.unusedSimpArgs false

end Go.Proofs.Ytdhnjecbdclmaaa
end
section
/- The program's CutStuck, and the names that a printed law takes. -/
namespace Go.Proofs.Ytdhnjecbdclmaaa
open Go.RowKit Go.Shelf Go.Proofs.YtdhnjecbdclmaaaW.PrintWords Go.Proofs.YtdhnjecbdclmaaaW.PrintMore
set_option linter.unusedVariables false
set_option linter.unusedSimpArgs false

/-! The names that a printed law takes. -/
end Go.Proofs.Ytdhnjecbdclmaaa
end
section
/- The program's stuckBy. -/
namespace Go.Proofs.Ytdhnjecbdclmaaa
open Go.RowKit Go.Shelf Go.Proofs.YtdhnjecbdclmaaaW.PrintWords Go.Proofs.YtdhnjecbdclmaaaW.PrintMore
set_option linter.unusedVariables false
set_option linter.unusedSimpArgs false

/-- A box inside of a floor. -/
def BoxFl (h wd : Nat) (B : Box) : Prop := ∃ r c ph pw : Nat, B = natB r c ph pw ∧ 1 ≤ ph ∧ 1 ≤ pw ∧ r + ph ≤ h ∧ c + pw ≤ wd
theorem BoxFl.in_ {h wd : Nat} {A : Box} (ha : BoxFl h wd A) (hh : h ≤ 6) (hw : wd ≤ 6) : BoxIn A ∧ 1 ≤ areaB A ∧ areaB A ≤ 36 := by
  obtain ⟨a1, a2, a3, a4, rfl, a5, a6, a7, a8⟩ := ha
  refine ⟨?_, ?_⟩
  · unfold BoxIn natB
    simp only
    omega
  · show 1 ≤ ((a3 : Int) * (a4 : Int)) ∧ ((a3 : Int) * (a4 : Int)) ≤ 36
    have h1 : a3 * a4 ≤ 6 * 6 := Nat.mul_le_mul (by omega) (by omega)
    have h2 : 1 * 1 ≤ a3 * a4 := Nat.mul_le_mul a5 a6
    rw [← Int.natCast_mul]
    omega
end Go.Proofs.Ytdhnjecbdclmaaa
end
section
/- The plain law of ways and depths: rooms of both parts of a cut; the number of ways; its bound. -/
namespace Go.Proofs.Ytdhnjecbdclmaaa
open Go.RowKit Go.Shelf Go.Proofs.YtdhnjecbdclmaaaW.PrintWords Go.Proofs.YtdhnjecbdclmaaaW.PrintMore
set_option linter.unusedVariables false

end Go.Proofs.Ytdhnjecbdclmaaa
end
section
/- The plain law: parts of cuttable parts are cuttable along any cut; so the first cuts tell whether there is a way. -/
namespace Go.Proofs.Ytdhnjecbdclmaaa
open Go.RowKit Go.Shelf Go.Proofs.YtdhnjecbdclmaaaW.PrintWords Go.Proofs.YtdhnjecbdclmaaaW.PrintMore
set_option linter.unusedVariables false

end Go.Proofs.Ytdhnjecbdclmaaa
end
section
/- Plain: rooms inside of a rectangle whose areas fill it are all that it touches. -/
namespace Go.Proofs.Ytdhnjecbdclmaaa
open Go.RowKit Go.Shelf Go.Proofs.YtdhnjecbdclmaaaW.PrintWords Go.Proofs.YtdhnjecbdclmaaaW.PrintMore
set_option linter.unusedVariables false
set_option linter.unusedSimpArgs false

def cnt1 (P : Nat → Prop) [DecidablePred P] : Nat → Nat
  | 0 => 0
  | n + 1 => cnt1 P n + if P n then 1 else 0
section
variable {P Q : Nat → Prop} [DecidablePred P] [DecidablePred Q]
theorem cnt1_int (a d : Nat) (n : Nat) : cnt1 (fun i => a ≤ i ∧ i < a + d) n = min n (a + d) - min n a := by
  induction n with
  | zero => simp [cnt1]
  | succ n ih =>
    unfold cnt1
    rw [ih]
    by_cases h : a ≤ n ∧ n < a + d
    · rw [if_pos h]; omega
    · rw [if_neg h]; omega
end
/-- The sum over all rows of a function. -/
def sumR (g : Nat → Nat) : Nat → Nat
  | 0 => 0
  | n + 1 => sumR g n + g n
theorem sumR_congr {g k : Nat → Nat} (n : Nat) (h : ∀ i, i < n → g i = k i) : sumR g n = sumR k n := by
  induction n with
  | zero => rfl
  | succ n ih => unfold sumR; rw [ih (fun i hi => h i (by omega)), h n (by omega)]
theorem sumR_box (a d e : Nat) (n : Nat) : sumR (fun i => if a ≤ i ∧ i < a + d then e else 0) n = (min n (a + d) - min n a) * e := by
  induction n with
  | zero => simp [sumR]
  | succ n ih =>
    unfold sumR
    rw [ih]
    by_cases h : a ≤ n ∧ n < a + d
    · rw [if_pos h, show min (n + 1) (a + d) - min (n + 1) a = (min n (a + d) - min n a) + 1 by omega, Nat.succ_mul]
    · rw [if_neg h, show min (n + 1) (a + d) - min (n + 1) a = min n (a + d) - min n a by omega]; rfl
theorem cnt1_congr {P Q : Nat → Prop} [DecidablePred P] [DecidablePred Q] (n : Nat) (h : ∀ i, i < n → (P i ↔ Q i)) : cnt1 P n = cnt1 Q n := by
  induction n with
  | zero => rfl
  | succ n ih =>
    unfold cnt1
    rw [ih (fun i hi => h i (by omega))]
    by_cases hp : P n
    · rw [if_pos hp, if_pos ((h n (by omega)).1 hp)]
    · rw [if_neg hp, if_neg (fun hq => hp ((h n (by omega)).2 hq))]
theorem cnt1_none {P : Nat → Prop} [DecidablePred P] (n : Nat) (h : ∀ i, i < n → ¬ P i) : cnt1 P n = 0 := by
  induction n with
  | zero => rfl
  | succ n ih => unfold cnt1; rw [ih (fun i hi => h i (by omega)), if_neg (h n (by omega))]
/-- A room inside of a rectangle fills its own area of it. -/
theorem cells_room {cl : Nat → Nat → Int} {boxes : List Box} {h wd r c ph pw : Nat} (f : Flat cl boxes h wd) (hr : r + ph ≤ h) (hc : c + pw ≤ wd) (k : Nat) (hk : k < boxes.length) (hin : bothB (natB r c ph pw) boxes[k] = natB r c ph pw) :
    ((sumR (fun i => cnt1 (fun j => cl (r + i) (c + j) = (k : Int)) pw) ph : Nat) : Int) = areaB boxes[k] := by
  obtain ⟨a, b, d, e, hb, h1, h2, h3, h4, hcl⟩ := f.box k hk
  rw [hb, both_within] at hin
  rw [hb]
  have e1 : sumR (fun i => cnt1 (fun j => cl (r + i) (c + j) = (k : Int)) pw) ph = sumR (fun i => if a - r ≤ i ∧ i < a - r + d then e else 0) ph := by
    refine sumR_congr ph fun i hi => ?_
    by_cases hio : a - r ≤ i ∧ i < a - r + d
    · rw [if_pos hio, cnt1_congr (Q := fun j => b - c ≤ j ∧ j < b - c + e) pw (fun j hj => by rw [hcl (r + i) (c + j) (by omega) (by omega)]; omega), cnt1_int]
      omega
    · rw [if_neg hio]
      exact cnt1_none pw (fun j hj hcj => by rw [hcl (r + i) (c + j) (by omega) (by omega)] at hcj; omega)
  rw [e1, sumR_box, show min ph (a - r + d) - min ph (a - r) = d by omega]
  show ((d * e : Nat) : Int) = (d : Int) * (e : Int)
  rw [Int.natCast_mul]
end Go.Proofs.Ytdhnjecbdclmaaa
end
