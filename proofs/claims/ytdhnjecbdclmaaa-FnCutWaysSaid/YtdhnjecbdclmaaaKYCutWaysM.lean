/- Texts of this claim's, joined by a program: YCutWays, YTurn, YPlanTurn, YListOwn, YCutStuckS, YCutStuck, YStuckBy, YTile. -/
import Derived.Test.YtdhnjecbdclmaaaKYSpecTextM
import Derived.Test.YtdhnjecbdclmaaaKYWays
import Derived.Test.YtdhnjecbdclmaaaKYSpecWays
import Derived.Test.YtdhnjecbdclmaaaKYHered
import Derived.Test.YtdhnjecbdclmaaaKYFloorRM
section
namespace Go.Proofs.Ytdhnjecbdclmaaa
open Go.RowKit Go.Shelf Go.Proofs.YtdhnjecbdclmaaaW.PrintWords Go.Proofs.YtdhnjecbdclmaaaW.PrintMore
set_option linter.unusedVariables false
def waysP (p : List ByteArray) : Nat := waysN (clP p) (boxesP p) 13 (0, 0, p.length, wdP p)
def cutWaysP (p : List ByteArray) : Int × Bool := if planG p then (((waysP p : Nat) : Int), decide (((waysP p : Nat) : Int) > 0)) else (0, false)
theorem ways_text {p : List ByteArray} (h : planG p = true) : (cutTextO p).isSome = decide (((waysP p : Nat) : Int) > 0) := by
  have f := planFlat h
  have hh := f.high
  have hw := f.wide
  have e1 := text_pos f 13 0 0 p.length (wdP p) (by omega) f.whole
  have e2 := pos_ways (cl := clP p) (boxes := boxesP p) (n := 13) (R := (0, 0, p.length, wdP p)) (by show p.length + wdP p < 13; omega)
  rw [Bool.eq_iff_iff, decide_eq_true_iff]
  unfold cutTextO waysP
  rw [e1, ← e2]
  omega
set_option maxHeartbeats 4000000 in
theorem cutWays_any (A : Option Addr) (cap : Nat) (p : List ByteArray) (hp : SmallP p) (w : World) (hr0 : Kd.C Kd.string w A p.length p) (hc0 : p.length ≤ cap) :
    Calls Try.prog 78 #[.slice A p.length cap] w fun e w' => e = .returned (.tuple #[.int .i64 (cutWaysP p).1, .bool (cutWaysP p).2]) ∧ Below w.heap.size w w' := by
  have HFL := floorOf_any A cap p hp.1 hp.2 w hr0 hc0
  clear hr0
  go_enter Try.func78, Try.ntmps78
  go_wp2_with fail
  refine HFL.mono ?_
  rintro e w1 ⟨hb1, ⟨hpl, fb, base, rfl, hbase, hfl⟩ | ⟨hpl, o, rfl⟩⟩
  · have HB1 := Aside0.mk hb1
    have F := Aside0.mk (planFlat hpl)
    have hR := hfl.reads
    have hh := (planFlat hpl).high
    have hw := (planFlat hpl).wide
    have hval : cutWaysP p = (((waysP p : Nat) : Int), decide (((waysP p : Nat) : Int) > 0)) := by unfold cutWaysP; rw [if_pos hpl]
    have HV := Aside0.mk hval
    have HWH := Aside0.mk (whole_any fb p.length (wdP p) (clP p) (boxesP p) w1 hR (by omega) (by omega))
    have HWA := Aside0.mk (fun W (hW : Below w1.heap.size w1 W) => ways_any fb p.length (wdP p) (clP p) (boxesP p) F.out F.out.boxIn 13 (by omega) 0 0 p.length (wdP p) (by omega) F.out.whole W (hR.below hW))
    have hsm := ways_small F.out 13 0 0 p.length (wdP p) F.out.whole
    obtain ⟨m, hm⟩ : ∃ m, waysN (clP p) (boxesP p) 13 (0, 0, p.length, wdP p) = m := ⟨_, rfl⟩
    rw [hm] at HWA hsm
    have HM := Aside0.mk (show waysP p = m from hm)
    have HD : Aside0 (decide (0 < m) = decide ((m : Int) > 0)) := ⟨by rw [Bool.eq_iff_iff, decide_eq_true_iff, decide_eq_true_iff]; omega⟩
    clear hb1 hpl hfl hR hval hm
    go_wp2_with fail
    refine HWH.out.mono ?_
    rintro e w2 ⟨rfl, hb2⟩
    have HB2 := Aside0.mk hb2
    clear hb2
    go_wp2_with fail
    refine (HWA.out _ HB2.out).mono ?_
    rintro e w3 ⟨rfl, hb3⟩
    have HB3 := Aside0.mk hb3
    clear hb3
    go_wp2_with fail
    all_goals
      go_ret2
      exact ⟨by rw [HV.out, HM.out]; show Ending.returned (.tuple #[.int .i64 (m : Int), .bool (decide (0 < m))]) = _; rw [HD.out], HB1.out.trans ((HB2.out.trans (HB3.out.mono HB2.out.size)).mono HB1.out.size)⟩
  · have HB1 := Aside0.mk hb1
    have hval : cutWaysP p = (0, false) := by unfold cutWaysP; rw [hpl]; rfl
    have HV := Aside0.mk hval
    clear hb1 hpl hval
    go_wp2_with fail
    go_ret2
    exact ⟨by rw [HV.out]; rfl, HB1.out⟩
theorem cutIs_ev (p : List ByteArray) (hp : SmallP p) : Ev (fun k => L3.spec_CutIs.f k p) (cutTextP p).2 := by
  have hPI : Ev (fun _ : Nat => spec_PlanIn.f p) (planG p) := ⟨0, fun k _ => by unfold spec_PlanIn.f; rw [if_pos hp]⟩
  unfold cutTextP
  cases h : planG p with
  | false =>
    rw [h] at hPI
    refine hPI.bind (F := fun k t193 => _) ?_
    simp only [Bool.false_eq_true, if_false]
    exact Ev.const _
  | true =>
    obtain ⟨s, e, y⟩ := spec_text p h
    rw [h] at hPI
    refine hPI.bind (F := fun k t193 => _) ?_
    simp only [if_true]
    exact e.bind (Ev.const _)
theorem spec_CutWays_f (p : List ByteArray) (hp : SmallP p) : ∃ k, L3.spec_CutWays.f k p = some (cutWaysP p) := by
  refine Ev.ex (g := fun k => L3.spec_CutWays.f k p) ?_
  refine (cutIs_ev p hp).bind (F := fun k t267 => if t267 = true then (L3.spec_l3Ways.f k p).bind fun t268 => some (t268, true) else some (0, false)) ?_
  unfold cutTextP cutWaysP
  cases h : planG p with
  | false => exact Ev.const _
  | true =>
    have f := planFlat h
    have hw := ways_text h
    simp only [if_true]
    rw [← hw]
    cases hs : (cutTextO p).isSome with
    | false =>
      simp only [Bool.false_eq_true, if_false]
      have h0 : waysP p = 0 := by
        rw [hs] at hw
        have := of_decide_eq_false hw.symm
        omega
      rw [h0]
      exact Ev.const _
    | true =>
      simp only [if_true]
      have := specWays f 13 (by omega) 0 0 p.length (wdP p) p (by have := f.high; have := f.wide; omega) f.whole (planTG h)
      exact this.bind (Ev.const _)
def impl_CutWays.f (l0 : List ByteArray) : Option (Int × Bool) := if SmallP l0 then some (cutWaysP l0) else none
theorem impl_CutWays.calls (A0 : Option Addr) (c0 : Nat) (l0 : List ByteArray) (r1 : Int) (r2 : Bool) (w : World) (hr0 : Kd.C Kd.string w A0 l0.length l0) (hc0 : l0.length ≤ c0) (h : impl_CutWays.f l0 = some (r1, r2)) :
    Calls Try.prog 78 #[.slice A0 l0.length c0] w fun e w' => e = .returned (.tuple #[.int .i64 r1, .bool r2]) ∧ Below w.heap.size w w' := by
  unfold impl_CutWays.f at h
  split at h
  · rename_i hb; injection h with h; have := cutWays_any A0 c0 l0 hb w hr0 hc0; rw [h] at this; exact this
  · cases h
def spec_CutWays.f (l0 : List ByteArray) : Option (Int × Bool) := if SmallP l0 then some (cutWaysP l0) else none
theorem spec_CutWays.calls (A0 : Option Addr) (c0 : Nat) (l0 : List ByteArray) (r1 : Int) (r2 : Bool) (w : World) (hr0 : Kd.C Kd.string w A0 l0.length l0) (hc0 : l0.length ≤ c0) (h : spec_CutWays.f l0 = some (r1, r2)) :
    Calls Try.prog 79 #[.slice A0 l0.length c0] w fun e w' => e = .returned (.tuple #[.int .i64 r1, .bool r2]) ∧ Below w.heap.size w w' := by
  unfold spec_CutWays.f at h
  split at h
  · rename_i hb
    injection h with h
    obtain ⟨k, hk⟩ := spec_CutWays_f l0 hb
    rw [h] at hk
    exact L3.spec_CutWays.calls k A0 c0 l0 r1 r2 w hr0 hc0 hk
  · cases h
end Go.Proofs.Ytdhnjecbdclmaaa
end
section
namespace Go.Proofs.Ytdhnjecbdclmaaa
open Go.RowKit Go.Shelf Go.Proofs.YtdhnjecbdclmaaaW.PrintWords Go.Proofs.YtdhnjecbdclmaaaW.PrintMore
set_option linter.unusedVariables false
set_option linter.unusedSimpArgs false
set_option maxRecDepth 100000 in
set_option maxHeartbeats 8000000 in
theorem turned1_any (bx fb h wd : Nat) (cl : Nat → Nat → Int) (boxes : List Box) (r c : Nat) (hr : r < wd) (hc : c < h) (hh : h ≤ 6) (hw : wd ≤ 6) (w : World) (hf : FloorR w fb h wd cl boxes) (hb : w.cell? ⟨bx, 0, none⟩ = some (.pointer (some ⟨fb, 0, none⟩))) :
    Calls Try.prog 182 #[.int .i64 r, .int .i64 c, .pointer (some ⟨bx, 0, none⟩)] w fun e w' => e = .returned (.int .i64 (cl (h - 1 - c) r)) ∧ Below w.heap.size w w' := by
  obtain ⟨g, rb, RA, rc, h1, h2, h3, h4, h5, h6⟩ := hf
  obtain ⟨a1, a2, a3⟩ := h5 (h - 1 - c) (by omega)
  have f0 := a3 r hr
  obtain ⟨q, hq⟩ : ∃ q, rb (h - 1 - c) = q := ⟨_, rfl⟩
  rw [hq] at a2 f0
  have n1 : (c : Int) ≤ (h : Int) - 1 := by omega
  have n2 : (h : Int) - 1 - (c : Int) < (h : Int) := by omega
  have n3 : (0 : Int) ≤ (h : Int) - 1 - (c : Int) := by omega
  have w1 : IntKind.i64.wrap ((h : Int) - 1) = (h : Int) - 1 := by rw [IntKind.wrap_i64]; omega
  have w2 : IntKind.i64.wrap ((h : Int) - 1 - (c : Int)) = (h : Int) - 1 - (c : Int) := by rw [IntKind.wrap_i64]; omega
  have w3 : wrap64 ((h : Int) - 1) = (h : Int) - 1 := by unfold wrap64; omega
  have w4 : wrap64 ((h : Int) - 1 - (c : Int)) = (h : Int) - 1 - (c : Int) := by unfold wrap64; omega
  have HHI : Aside0 (∀ W, W.cell? ⟨fb, 0, none⟩ = some (.slice (some ⟨g, 0, none⟩) h h) → Calls Try.prog 120 #[.pointer (some ⟨fb, 0, none⟩)] W fun e w' => e = .returned (.int .i64 h) ∧ w' = W) := ⟨fun W hW => high_any _ _ h h W hW⟩
  obtain ⟨v, hv⟩ : ∃ v, cl (h - 1 - c) r = v := ⟨_, rfl⟩
  rw [hv] at f0
  rw [hv]
  clear h5 h6 a1 a3 hq hv h4 h1 h2
  go_enter Try.func182, Try.ntmps182
  go_wp2_with fail
  go_region_held3 (fun w' => w'.cell? ⟨bx, 0, none⟩ = some (.pointer (some ⟨fb, 0, none⟩)) ∧ w'.cell? ⟨fb, 0, none⟩ = some (.slice (some ⟨g, 0, none⟩) h h) ∧ w'.cell? ⟨g, h - 1 - c, none⟩ = some (.slice (some ⟨q, 0, none⟩) wd wd) ∧ w'.cell? ⟨q, r, none⟩ = some (.int .i64 v)) (first
    | exact ⟨hb, h3, a2, f0⟩
    | (go_simp)) ((go_at_call 120; refine Calls.mono (HHI.out _ h3) ?_; rintro e w3 ⟨rfl, rfl⟩))
  all_goals
    go_wp2_with fail
    go_ret
    exact ⟨rfl, by repeat (first | exact Below.refl _ _ | apply pw_below_drewN)⟩
def Grown (w w' : World) (hi wd : Nat) (val : Nat → Nat → Int) (e : Ending) : Prop := ∃ (gb : Nat) (rows : List (Nat × List Int)), e = .returned (.slice (some ⟨gb, 0, none⟩) hi hi) ∧ rows.map Prod.snd = (List.range hi).map (fun r => (List.range wd).map fun c => val r c) ∧ GridAt w' gb hi rows ∧ Below w.heap.size w w'
theorem enter_t (args : Array Value) (W : World) : (callFunc 182 args).run Try.prog W = .ok (.enter 182 args) W := by kernel_rfl
theorem div_at {wd r c : Nat} (hc : c < wd) : (r * wd + c) / wd = r ∧ (r * wd + c) % wd = c := by
  have h0 : 0 < wd := by omega
  refine ⟨?_, ?_⟩
  · rw [Nat.mul_comm, Nat.mul_add_div h0, Nat.div_eq_of_lt hc, Nat.add_zero]
  · rw [Nat.mul_comm, Nat.mul_add_mod, Nat.mod_eq_of_lt hc]
theorem spares_of {hb : Nat} {W W' : World} (h : Below W.heap.size W W') : Spares hb W W' := fun j cs t _ hj _ => by
  rw [h.block j (Array.getElem?_eq_some_iff.1 hj).1]; exact hj
theorem blank_ro (hi wd : Nat) (hhi : 1 ≤ hi ∧ hi ≤ 100) (hwd : 1 ≤ wd ∧ wd ≤ 100) (cl : Nat) (cap : Array Value) (val : Nat → Nat → Int) (w : World)
    (hent : ∀ args W, (callFunc cl args).run Try.prog W = .ok (.enter cl args) W)
    (hcall : ∀ r c W, r < hi → c < wd → Below w.heap.size w W → Calls Try.prog cl (#[.int .i64 r, .int .i64 c] ++ cap) W fun e W' => e = .returned (.int .i64 (val r c)) ∧ Below W.heap.size W W') :
    Calls Try.prog 116 #[.int .i64 hi, .int .i64 wd, .func (.func cl) #[] cap] w fun e w' => Grown w w' hi wd val e := by
  refine (blank_any hi wd hhi hwd cl cap (fun n => val (n / wd) (n % wd)) w.heap.size w (Nat.le_refl _) (fun _ _ => True) trivial (fun _ _ _ _ _ _ => trivial) hent ?_).mono ?_
  · intro r c W hr hc _ hB
    refine (hcall r c W hr hc hB).mono ?_
    rintro e W' ⟨rfl, hb⟩
    refine ⟨?_, trivial, hb.mono hB.size, spares_of hb⟩
    show _ = Ending.returned (.int .i64 (val ((r * wd + c) / wd) ((r * wd + c) % wd)))
    rw [(div_at hc).1, (div_at hc).2]
  · rintro e w' ⟨rows, rfl, h1, h2, _, _, h3⟩
    refine ⟨_, rows, rfl, h1.trans ?_, h2, h3⟩
    refine List.map_congr_left fun r _ => List.map_congr_left fun c hc => ?_
    have hc := List.mem_range.1 hc
    rw [(div_at hc).1, (div_at hc).2]
set_option maxRecDepth 100000 in
set_option maxHeartbeats 8000000 in
theorem turned_any (fb h wd : Nat) (cl : Nat → Nat → Int) (boxes : List Box) (hh : 1 ≤ h ∧ h ≤ 6) (hw : 1 ≤ wd ∧ wd ≤ 6) (w : World) (hf : FloorR w fb h wd cl boxes) :
    Calls Try.prog 107 #[.pointer (some ⟨fb, 0, none⟩)] w fun e w' => Grown w w' wd h (fun r c => cl (h - 1 - c) r) e := by
  have HF := Aside0.mk hf
  obtain ⟨g, rb, RA, rc, h1, h2, h3, h4, h5, h6⟩ := hf
  obtain ⟨b1, b2, b3⟩ := h5 0 (by omega)
  have HHI : Aside0 (∀ W, W.cell? ⟨fb, 0, none⟩ = some (.slice (some ⟨g, 0, none⟩) h h) → Calls Try.prog 120 #[.pointer (some ⟨fb, 0, none⟩)] W fun e w' => e = .returned (.int .i64 h) ∧ w' = W) := ⟨fun W hW => high_any _ _ h h W hW⟩
  have HWI : Aside0 (∀ W, W.cell? ⟨fb, 0, none⟩ = some (.slice (some ⟨g, 0, none⟩) h h) → W.cell? ⟨g, 0, none⟩ = some (.slice (some ⟨rb 0, 0, none⟩) wd wd) → Calls Try.prog 113 #[.pointer (some ⟨fb, 0, none⟩)] W fun e w' => e = .returned (.int .i64 wd) ∧ w' = W) := ⟨fun W hW hW2 => wide_any _ g h h hh.1 _ wd wd W hW hW2⟩
  have HBL : Aside0 (∀ W, Below w.heap.size w W → W.cell? ⟨w.heap.size, 0, none⟩ = some (.pointer (some ⟨fb, 0, none⟩)) → w.heap.size < W.heap.size → Calls Try.prog 116 #[.int .i64 wd, .int .i64 h, .func (.func 182) #[] #[.pointer (some ⟨w.heap.size, 0, none⟩)]] W fun e w' => Grown W w' wd h (fun r c => cl (h - 1 - c) r) e) := ⟨fun W hW hbx hlt => blank_ro wd h ⟨by omega, by omega⟩ ⟨by omega, by omega⟩ 182 #[.pointer (some ⟨w.heap.size, 0, none⟩)] _ W enter_t (fun r c W' hr hc hB => turned1_any w.heap.size fb h wd cl boxes r c hr hc hh.2 hw.2 W' (HF.out.below (hW.trans (hB.mono hW.size))) ((hB.cell (p := ⟨w.heap.size, 0, none⟩) hlt).trans hbx))⟩
  have HB0 : Aside0 (Below w.heap.size w (w.alloc (.cells #[.pointer (some ⟨fb, 0, none⟩)] 51))) := ⟨(Below.refl _ _).alloc (Nat.le_refl _) _⟩
  have HC0 : Aside0 ((w.alloc (.cells #[.pointer (some ⟨fb, 0, none⟩)] 51)).cell? ⟨w.heap.size, 0, none⟩ = some (.pointer (some ⟨fb, 0, none⟩))) := ⟨by rw [Lib.cell_of_heap (heap_alloc_new w _)]; rfl⟩
  have HC1 : Aside0 ((w.alloc (.cells #[.pointer (some ⟨fb, 0, none⟩)] 51)).cell? ⟨fb, 0, none⟩ = some (.slice (some ⟨g, 0, none⟩) h h)) := ⟨(HB0.out.cell (p := ⟨fb, 0, none⟩) h1).trans h3⟩
  have HC2 : Aside0 ((w.alloc (.cells #[.pointer (some ⟨fb, 0, none⟩)] 51)).cell? ⟨g, 0, none⟩ = some (.slice (some ⟨rb 0, 0, none⟩) wd wd)) := ⟨(HB0.out.cell (p := ⟨g, 0, none⟩) h2).trans b2⟩
  clear h5 h6 h1 h2 h3 h4 b1 b2 b3
  go_enter Try.func107, Try.ntmps107
  go_wp2_with fail
  go_region_held3 (fun w' => w'.cell? ⟨w.heap.size, 0, none⟩ = some (.pointer (some ⟨fb, 0, none⟩))) (first
    | exact HC0.out
    | exact hc4
    | (go_simp)) (first
    | (go_at_call 120; refine Calls.mono (HHI.out _ HC1.out) ?_; rintro e w3 ⟨rfl, rfl⟩)
    | (go_at_call 113; refine Calls.mono (HWI.out _ HC1.out HC2.out) ?_; rintro e w3 ⟨rfl, rfl⟩)
    | (go_at_call 116; refine Calls.mono (HBL.out _ (by repeat (first | exact HB0.out | apply pw_below_drewN)) HC0.out (by simp)) ?_; rintro e w4 ⟨gb, rows, rfl, g1, g2, g3⟩; have hc4 : w4.cell? ⟨w.heap.size, 0, none⟩ = some (.pointer (some ⟨fb, 0, none⟩)) := (g3.cell (p := ⟨w.heap.size, 0, none⟩) (by simp)).trans HC0.out; have HG := Aside0.mk (And.intro g1 (And.intro g2 g3)); clear g1 g2 g3))
  all_goals
    go_wp2_with fail
    go_ret
    exact ⟨gb, rows, rfl, HG.out.1, HG.out.2.1, Below.trans (by repeat (first | exact HB0.out | apply pw_below_drewN)) (HG.out.2.2.mono HB0.out.size)⟩
end Go.Proofs.Ytdhnjecbdclmaaa
end
section
namespace Go.Proofs.Ytdhnjecbdclmaaa
open Go.RowKit Go.Shelf Go.Proofs.YtdhnjecbdclmaaaW.PrintWords Go.Proofs.YtdhnjecbdclmaaaW.PrintMore
set_option linter.unusedVariables false
set_option linter.unusedSimpArgs false
theorem GridAt.in_ {W : World} {g n : Nat} {rows : List (Nat × List Int)} (h : GridAt W g n rows) : GridIn W g (rows.map Prod.snd) := by
  refine ⟨_, h.1, fun r row hr => ?_⟩
  rw [List.getElem?_map] at hr
  obtain ⟨⟨a, xs⟩, h1, rfl⟩ := Option.map_eq_some_iff.1 hr
  obtain ⟨hl, hg⟩ := List.getElem?_eq_some_iff.1 h1
  refine ⟨a, xs.length, ?_, _, h.2 _ (List.mem_of_getElem? h1), fun c x hx => ?_⟩
  · rw [List.getElem?_toArray, List.getElem?_append_left (by rw [List.length_map]; exact hl), List.getElem?_map, h1]
    rfl
  · rw [List.getElem?_toArray, List.getElem?_map]
    show Option.map _ xs[c]? = _
    rw [hx]; rfl
def planV (rows : List (List Int)) : List ByteArray × Bool := if (shapeB rows && decide ((scanOf rows).2.length ≤ 9)) && fullB rows then ((numsOf rows).map rowText, true) else ([], false)
theorem nums_smallR {rows : List (List Int)} (hs : shapeB rows = true) : (numsOf rows).length ≤ 6 ∧ ∀ row ∈ numsOf rows, row.length ≤ 6 ∧ ∀ k ∈ row, (0 : Int) ≤ k ∧ k ≤ 100 := by
  have h6 : rows.length ≤ 6 ∧ (rows.getD 0 []).length ≤ 6 := by
    unfold shapeB at hs
    simp only [Bool.and_eq_true, decide_eq_true_eq] at hs
    exact ⟨hs.1.1.1.2, hs.1.2⟩
  unfold numsOf
  refine ⟨by rw [List.length_map, List.length_range]; exact h6.1, fun row hrow => ?_⟩
  obtain ⟨r, hr, rfl⟩ := List.mem_map.1 hrow
  have hr := List.mem_range.1 hr
  refine ⟨by rw [List.length_map, List.length_range]; exact h6.2, fun k hk => ?_⟩
  obtain ⟨c, hc, rfl⟩ := List.mem_map.1 hk
  have hc := List.mem_range.1 hc
  refine ⟨Int.natCast_nonneg _, ?_⟩
  have h1 : numAt (rows.getD 0 []).length (cellOf rows (rows.getD 0 []).length) (r * (rows.getD 0 []).length + c) ≤ r * (rows.getD 0 []).length + c := by
    unfold numAt
    exact Nat.le_trans List.idxOf_le_length (scan_len_le _ _ _)
  have h2 : r * (rows.getD 0 []).length ≤ 5 * 6 := Nat.mul_le_mul (by omega) h6.2
  omega
def PlanE (rows : List (List Int)) (w w' : World) (e : Ending) : Prop := (∃ A c, e = .returned (.tuple #[.slice A (planV rows).1.length c, .bool (planV rows).2]) ∧ (planV rows).1.length ≤ c ∧ Kd.C Kd.string w' A (planV rows).1.length (planV rows).1) ∧ Below w.heap.size w w'
theorem nil_C (W : World) : Kd.C Kd.string W none 0 [] := Kd.C_of_reads (d := ByteArray.empty) (enc := Value.string) (h1 := fun _ => rfl) ⟨rfl, Nat.zero_le _, fun h => absurd h (Nat.lt_irrefl 0)⟩
set_option maxRecDepth 100000 in
set_option maxHeartbeats 4000000 in
theorem plan_any (gb n : Nat) (rows : List (Nat × List Int)) (hl : rows.length = n) (hn : n ≤ 100) (w : World) (hg : GridAt w gb n rows) (hx : ∀ row ∈ rows.map Prod.snd, ∀ x ∈ row, (0 : Int) ≤ x ∧ x ≤ 1000) (hrl : ∀ row ∈ rows.map Prod.snd, row.length ≤ 100) :
    Calls Try.prog 181 #[.slice (some ⟨gb, 0, none⟩) n n] w fun e w' => PlanE (rows.map Prod.snd) w w' e := by
  have HST := settled_any gb n (rows.map Prod.snd) (by rw [List.length_map]; omega) w hg.in_ hx (fun row h => by have := hrl row h; omega)
  rw [List.length_map, hl] at HST
  obtain ⟨R, hR⟩ : ∃ R, rows.map Prod.snd = R := ⟨_, rfl⟩
  rw [hR] at HST ⊢
  clear hg hx hrl hR
  go_enter Try.func181, Try.ntmps181
  go_wp2_with fail
  refine HST.mono ?_
  rintro e w1 ⟨hb1, ⟨hsh, fb, rfl, hfl⟩ | ⟨hsh, rfl⟩⟩
  · have HB := Aside0.mk hb1
    cases hfu : fullB R with
    | false =>
      have HV : Aside0 (planV R = ([], false)) := ⟨by unfold planV; rw [hfu, Bool.and_false]; rfl⟩
      clear hsh hfl hb1 hfu
      go_wp2_with fail
      go_ret2
      exact ⟨⟨none, 0, by rw [HV.out]; rfl, by rw [HV.out]; exact Nat.le_refl _, by rw [HV.out]; exact nil_C _⟩, HB.out⟩
    | true =>
      have HV : Aside0 (planV R = ((numsOf R).map rowText, true)) := ⟨by unfold planV; rw [hsh, hfu]; rfl⟩
      have hshape : shapeB R = true := by simp only [Bool.and_eq_true] at hsh; exact hsh.1
      obtain ⟨hn1, hn2⟩ := nums_smallR hshape
      obtain ⟨g, hh, rv, rows', k1, k2, k3, k4, k5, k6⟩ := hfl
      have hrows : ∀ x ∈ rows', x.2.length ≤ 100 ∧ ∀ k ∈ x.2, (0 : Int) ≤ k ∧ k ≤ 100 := fun x hx => by
        have := hn2 x.2 (by rw [← k3]; exact List.mem_map_of_mem hx)
        exact ⟨by omega, this.2⟩
      have hh6 : hh ≤ 6 := by
        rw [← k4]
        have := congrArg List.length k3
        rw [List.length_map] at this
        omega
      have HTX := text_any fb g hh rv rows' w1 k1 k2 k4 (by omega) hrows
      have HSL : Aside0 (((rows'.map Prod.snd).map rowText).length = hh) := ⟨by rw [List.length_map, List.length_map, k4]⟩
      have HK3 := Aside0.mk k3
      clear k1 k2 k3 k4 k5 k6 hrows hn1 hn2 hshape hsh hfu hb1
      go_wp2_with fail
      refine HTX.mono ?_
      rintro e w2 ⟨rfl, hst, hb2⟩
      have HB2 := Aside0.mk hb2
      have HCS := Aside0.mk (StrsAt.reads hst HSL.out (by omega))
      clear hst hb2
      go_wp2_with fail
      go_ret2
      have hlen := HSL.out
      rw [HK3.out] at hlen
      have hC := HCS.out
      rw [HK3.out] at hC
      refine ⟨⟨some ⟨w1.heap.size, 0, none⟩, hh, ?_, ?_, ?_⟩, HB.out.trans (HB2.out.mono HB.out.size)⟩
      · rw [HV.out]
        show Ending.returned _ = Ending.returned (.tuple #[.slice _ ((numsOf R).map rowText).length _, .bool true])
        rw [hlen]; rfl
      · rw [HV.out]
        show ((numsOf R).map rowText).length ≤ hh
        omega
      · rw [HV.out]; exact hC
  · have HB := Aside0.mk hb1
    have HV : Aside0 (planV R = ([], false)) := ⟨by unfold planV; rw [hsh, Bool.false_and]; rfl⟩
    clear hsh hb1
    go_wp2_with fail
    go_ret2
    exact ⟨⟨none, 0, by rw [HV.out]; rfl, by rw [HV.out]; exact Nat.le_refl _, by rw [HV.out]; exact nil_C _⟩, HB.out⟩
def gridV (hi wd : Nat) (val : Nat → Nat → Int) : List (List Int) := (List.range hi).map fun r => (List.range wd).map fun c => val r c
def RemadeE (p : List ByteArray) (R : List (List Int)) (w w' : World) (e : Ending) : Prop := (∃ A c V, V = (if planG p then planV R else ([], false)) ∧ e = .returned (.tuple #[.slice A V.1.length c, .bool V.2]) ∧ V.1.length ≤ c ∧ Kd.C Kd.string w' A V.1.length V.1) ∧ Below w.heap.size w w'
set_option maxRecDepth 100000 in
set_option maxHeartbeats 8000000 in
theorem remade_any (fn : Nat) (hent : ∀ args W, (callFunc fn args).run Try.prog W = .ok (.enter fn args) W) (A : Option Addr) (cap : Nat) (p : List ByteArray) (hp : SmallP p) (hi wd : Nat) (val : Nat → Nat → Int) (hhi : planG p = true → hi ≤ 100 ∧ wd ≤ 100 ∧ ∀ r c, r < hi → c < wd → 0 ≤ val r c ∧ val r c ≤ 1000)
    (how : planG p = true → ∀ fb W, FloorR W fb p.length (wdP p) (clP p) (boxesP p) → Calls Try.prog fn #[.pointer (some ⟨fb, 0, none⟩)] W fun e w' => Grown W w' hi wd val e) (w : World) (hr0 : Kd.C Kd.string w A p.length p) (hc0 : p.length ≤ cap) :
    Calls Try.prog 106 #[.slice A p.length cap, .func (.func fn) #[] #[]] w fun e w' => RemadeE p (gridV hi wd val) w w' e := by
  have HFL := floorOf_any A cap p hp.1 hp.2 w hr0 hc0
  have HOW := Aside0.mk how
  have HHI := Aside0.mk hhi
  clear hr0 how hhi
  go_enter Try.func106, Try.ntmps106
  go_wp2_with fail
  refine HFL.mono ?_
  rintro e w1 ⟨hb1, ⟨hpl, fb, base, rfl, hbase, hfl⟩ | ⟨hpl, o, rfl⟩⟩
  · have HB1 := Aside0.mk hb1
    have HC := Aside0.mk (HOW.out hpl fb w1 hfl.reads)
    have HPL := Aside0.mk hpl
    obtain ⟨hv1, hv2, hv3⟩ := HHI.out hpl
    have HV3 := Aside0.mk hv3
    clear hb1 hpl hfl hv3
    go_wp2_with fail
    refine HC.out.mono ?_
    rintro e w2 ⟨gb, rows, rfl, g1, g2, g3⟩
    have HB2 := Aside0.mk (HB1.out.trans (g3.mono HB1.out.size))
    have hlen : rows.length = hi := by have := congrArg List.length g1; simpa using this
    have hcell : ∀ row ∈ rows.map Prod.snd, row.length ≤ 100 ∧ ∀ x ∈ row, (0 : Int) ≤ x ∧ x ≤ 1000 := fun row hrow => by
      rw [g1] at hrow
      obtain ⟨r, hr, rfl⟩ := List.mem_map.1 hrow
      refine ⟨by rw [List.length_map, List.length_range]; omega, fun x hx => ?_⟩
      obtain ⟨c, hc, rfl⟩ := List.mem_map.1 hx
      exact HV3.out r c (List.mem_range.1 hr) (List.mem_range.1 hc)
    have HPN := plan_any gb hi rows hlen hv1 w2 g2 (fun row h => (hcell row h).2) (fun row h => (hcell row h).1)
    rw [g1] at HPN
    clear g1 g2 g3 hcell hlen
    go_wp2_with fail
    refine HPN.mono ?_
    rintro e w3 ⟨⟨A3, c3, rfl, h1, h2⟩, hb3⟩
    have HB3 := Aside0.mk (HB2.out.trans (hb3.mono HB2.out.size))
    have HC3 := Aside0.mk (And.intro h1 h2)
    clear h1 h2 hb3
    go_wp2_with fail
    go_ret2
    exact ⟨⟨A3, c3, planV (gridV hi wd val), by rw [if_pos HPL.out], rfl, HC3.out.1, HC3.out.2⟩, HB3.out⟩
  · have HB1 := Aside0.mk hb1
    have HPL := Aside0.mk hpl
    clear hb1 hpl
    go_wp2_with fail
    go_ret2
    exact ⟨⟨none, 0, ([], false), by rw [HPL.out]; rfl, rfl, Nat.le_refl _, nil_C _⟩, HB1.out⟩
theorem enter_tu (args : Array Value) (W : World) : (callFunc 107 args).run Try.prog W = .ok (.enter 107 args) W := by kernel_rfl
def turnR (p : List ByteArray) : List (List Int) := gridV (wdP p) p.length fun r c => clP p (p.length - 1 - c) r
theorem clP_small {p : List ByteArray} (h : planG p = true) {i j : Nat} (hi : i < p.length) (hj : j < wdP p) : 0 ≤ clP p i j ∧ clP p i j ≤ 1000 := by
  obtain ⟨k, hk, e⟩ := (planFlat h).num i j hi hj
  have := (planFlat h).few
  omega
set_option maxHeartbeats 4000000 in
theorem planTurn_any (A : Option Addr) (cap : Nat) (p : List ByteArray) (hp : SmallP p) (w : World) (hr0 : Kd.C Kd.string w A p.length p) (hc0 : p.length ≤ cap) :
    Calls Try.prog 47 #[.slice A p.length cap] w fun e w' => RemadeE p (turnR p) w w' e := by
  have HR := remade_any 107 enter_tu A cap p hp (wdP p) p.length (fun r c => clP p (p.length - 1 - c) r)
    (fun h => ⟨by have := (planFlat h).wide; omega, by have := (planFlat h).high; omega, fun r c hr hc => clP_small h (by omega) hr⟩)
    (fun h fb W hF => turned_any fb p.length (wdP p) (clP p) (boxesP p) (planFlat h).high (planFlat h).wide W hF) w hr0 hc0
  clear hr0
  go_enter Try.func47, Try.ntmps47
  go_wp2_with fail
  refine HR.mono ?_
  rintro e w1 ⟨⟨A1, c1, ⟨V, b⟩, hv, rfl, h1, h2⟩, hb⟩
  have HC := Aside0.mk (And.intro hv (And.intro h1 (And.intro h2 hb)))
  clear hv h1 h2 hb
  dsimp only
  go_wp2_with fail
  go_ret2
  exact ⟨⟨A1, c1, (V, b), HC.out.1, rfl, HC.out.2.1, HC.out.2.2.1⟩, HC.out.2.2.2⟩
end Go.Proofs.Ytdhnjecbdclmaaa
end
section
namespace Go.Proofs.Ytdhnjecbdclmaaa
open Go.RowKit Go.Shelf Go.Proofs.YtdhnjecbdclmaaaW.PrintWords Go.Proofs.YtdhnjecbdclmaaaW.PrintMore
set_option linter.unusedVariables false
end Go.Proofs.Ytdhnjecbdclmaaa
end
section
namespace Go.Proofs.Ytdhnjecbdclmaaa
open Go.RowKit Go.Shelf Go.Proofs.YtdhnjecbdclmaaaW.PrintWords Go.Proofs.YtdhnjecbdclmaaaW.PrintMore
set_option linter.unusedVariables false
set_option linter.unusedSimpArgs false
end Go.Proofs.Ytdhnjecbdclmaaa
end
section
namespace Go.Proofs.Ytdhnjecbdclmaaa
open Go.RowKit Go.Shelf Go.Proofs.YtdhnjecbdclmaaaW.PrintWords Go.Proofs.YtdhnjecbdclmaaaW.PrintMore
set_option linter.unusedVariables false
set_option linter.unusedSimpArgs false
end Go.Proofs.Ytdhnjecbdclmaaa
end
section
namespace Go.Proofs.Ytdhnjecbdclmaaa
open Go.RowKit Go.Shelf Go.Proofs.YtdhnjecbdclmaaaW.PrintWords Go.Proofs.YtdhnjecbdclmaaaW.PrintMore
set_option linter.unusedVariables false
set_option linter.unusedSimpArgs false
def BoxFl (h wd : Nat) (B : Box) : Prop := ∃ r c ph pw : Nat, B = natB r c ph pw ∧ 1 ≤ ph ∧ 1 ≤ pw ∧ r + ph ≤ h ∧ c + pw ≤ wd
theorem BoxFl.in_ {h wd : Nat} {A : Box} (ha : BoxFl h wd A) (hh : h ≤ 6) (hw : wd ≤ 6) : BoxIn A ∧ 1 ≤ areaB A ∧ areaB A ≤ 36 := by
  obtain ⟨a1, a2, a3, a4, rfl, a5, a6, a7, a8⟩ := ha
  refine ⟨?_, ?_⟩
  · unfold BoxIn natB
    simp only
    omega
  · show 1 ≤ ((a3 : Int) * (a4 : Int)) ∧ ((a3 : Int) * (a4 : Int)) ≤ 36
    have h1 : a3 * a4 ≤ 6 * 6 := Nat.mul_le_mul (by omega) (by omega)
    have h2 : 1 * 1 ≤ a3 * a4 := Nat.mul_le_mul a5 a6
    rw [← Int.natCast_mul]
    omega
end Go.Proofs.Ytdhnjecbdclmaaa
end
section
namespace Go.Proofs.Ytdhnjecbdclmaaa
open Go.RowKit Go.Shelf Go.Proofs.YtdhnjecbdclmaaaW.PrintWords Go.Proofs.YtdhnjecbdclmaaaW.PrintMore
set_option linter.unusedVariables false
set_option linter.unusedSimpArgs false
def cnt1 (P : Nat → Prop) [DecidablePred P] : Nat → Nat
  | 0 => 0
  | n + 1 => cnt1 P n + if P n then 1 else 0
section
variable {P Q : Nat → Prop} [DecidablePred P] [DecidablePred Q]
theorem cnt1_int (a d : Nat) (n : Nat) : cnt1 (fun i => a ≤ i ∧ i < a + d) n = min n (a + d) - min n a := by
  induction n with
  | zero => simp [cnt1]
  | succ n ih =>
    unfold cnt1
    rw [ih]
    by_cases h : a ≤ n ∧ n < a + d
    · rw [if_pos h]; omega
    · rw [if_neg h]; omega
end
def sumR (g : Nat → Nat) : Nat → Nat
  | 0 => 0
  | n + 1 => sumR g n + g n
theorem sumR_congr {g k : Nat → Nat} (n : Nat) (h : ∀ i, i < n → g i = k i) : sumR g n = sumR k n := by
  induction n with
  | zero => rfl
  | succ n ih => unfold sumR; rw [ih (fun i hi => h i (by omega)), h n (by omega)]
theorem sumR_box (a d e : Nat) (n : Nat) : sumR (fun i => if a ≤ i ∧ i < a + d then e else 0) n = (min n (a + d) - min n a) * e := by
  induction n with
  | zero => simp [sumR]
  | succ n ih =>
    unfold sumR
    rw [ih]
    by_cases h : a ≤ n ∧ n < a + d
    · rw [if_pos h, show min (n + 1) (a + d) - min (n + 1) a = (min n (a + d) - min n a) + 1 by omega, Nat.succ_mul]
    · rw [if_neg h, show min (n + 1) (a + d) - min (n + 1) a = min n (a + d) - min n a by omega]; rfl
theorem cnt1_congr {P Q : Nat → Prop} [DecidablePred P] [DecidablePred Q] (n : Nat) (h : ∀ i, i < n → (P i ↔ Q i)) : cnt1 P n = cnt1 Q n := by
  induction n with
  | zero => rfl
  | succ n ih =>
    unfold cnt1
    rw [ih (fun i hi => h i (by omega))]
    by_cases hp : P n
    · rw [if_pos hp, if_pos ((h n (by omega)).1 hp)]
    · rw [if_neg hp, if_neg (fun hq => hp ((h n (by omega)).2 hq))]
theorem cnt1_none {P : Nat → Prop} [DecidablePred P] (n : Nat) (h : ∀ i, i < n → ¬ P i) : cnt1 P n = 0 := by
  induction n with
  | zero => rfl
  | succ n ih => unfold cnt1; rw [ih (fun i hi => h i (by omega)), if_neg (h n (by omega))]
theorem cells_room {cl : Nat → Nat → Int} {boxes : List Box} {h wd r c ph pw : Nat} (f : Flat cl boxes h wd) (hr : r + ph ≤ h) (hc : c + pw ≤ wd) (k : Nat) (hk : k < boxes.length) (hin : bothB (natB r c ph pw) boxes[k] = natB r c ph pw) :
    ((sumR (fun i => cnt1 (fun j => cl (r + i) (c + j) = (k : Int)) pw) ph : Nat) : Int) = areaB boxes[k] := by
  obtain ⟨a, b, d, e, hb, h1, h2, h3, h4, hcl⟩ := f.box k hk
  rw [hb, both_within] at hin
  rw [hb]
  have e1 : sumR (fun i => cnt1 (fun j => cl (r + i) (c + j) = (k : Int)) pw) ph = sumR (fun i => if a - r ≤ i ∧ i < a - r + d then e else 0) ph := by
    refine sumR_congr ph fun i hi => ?_
    by_cases hio : a - r ≤ i ∧ i < a - r + d
    · rw [if_pos hio, cnt1_congr (Q := fun j => b - c ≤ j ∧ j < b - c + e) pw (fun j hj => by rw [hcl (r + i) (c + j) (by omega) (by omega)]; omega), cnt1_int]
      omega
    · rw [if_neg hio]
      exact cnt1_none pw (fun j hj hcj => by rw [hcl (r + i) (c + j) (by omega) (by omega)] at hcj; omega)
  rw [e1, sumR_box, show min ph (a - r + d) - min ph (a - r) = d by omega]
  show ((d * e : Nat) : Int) = (d : Int) * (e : Int)
  rw [Int.natCast_mul]
end Go.Proofs.Ytdhnjecbdclmaaa
end
