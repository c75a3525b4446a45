/- Texts of this claim's, joined by a program: Turned, Trans. -/
import Derived.Test.YtdhnjecbdclmaaaKRemade
import Derived.Test.YtdhnjecbdclmaaaKSplit
section
/- PlanTurn and PlanFlip of a plan: a plan, turned and flipped. -/
namespace Go.Proofs.Ytdhnjecbdclmaaa
open Go.RowKit Go.Shelf Go.Proofs.YtdhnjecbdclmaaaW.PrintWords Go.Proofs.YtdhnjecbdclmaaaW.PrintMore
set_option linter.unusedVariables false

/-- A plan made of a floor's numbers is handed back, with true. -/
def MadeE (cl : Nat → Nat → Int) (h wd : Nat) (w w' : World) (e : Ending) : Prop := ∃ (q : List ByteArray) (A : Option Addr) (c : Nat), e = .returned (.tuple #[.slice A q.length c, .bool true]) ∧ Aside0 (Planned cl h wd q ∧ SmallP q ∧ q.length ≤ c ∧ Kd.C Kd.string w' A q.length q ∧ Below w.heap.size w w')
theorem RemadeE.made {cl : Nat → Nat → Int} {h wd : Nat} {p : List ByteArray} {R : List (List Int)} {w w' : World} {e : Ending} (hp : planG p = true) (hq : ∃ q, planV R = (q, true) ∧ Planned cl h wd q) (hr : RemadeE p R w w' e) : MadeE cl h wd w w' e := by
  obtain ⟨q, hv, hpl⟩ := hq
  obtain ⟨⟨A, c, V, hV, he, hc, hC⟩, hb⟩ := hr
  rw [if_pos hp, hv] at hV
  subst hV
  exact ⟨q, A, c, he, ⟨hpl, plan_small hpl.plan, hc, hC, hb⟩⟩
end Go.Proofs.Ytdhnjecbdclmaaa
end
section
/- The program's crossed and PlanTrans: rows and columns exchanged. -/
namespace Go.Proofs.Ytdhnjecbdclmaaa
open Go.RowKit Go.Shelf Go.Proofs.YtdhnjecbdclmaaaW.PrintWords Go.Proofs.YtdhnjecbdclmaaaW.PrintMore
set_option linter.unusedVariables false
set_option linter.unusedSimpArgs false

set_option maxRecDepth 100000 in
set_option maxHeartbeats 8000000 in
theorem crossed1_any (bx fb h wd : Nat) (cl : Nat → Nat → Int) (boxes : List Box) (r c : Nat) (hr : r < wd) (hc : c < h) (hh : h ≤ 6) (hw : wd ≤ 6) (w : World) (hf : FloorR w fb h wd cl boxes) (hb : w.cell? ⟨bx, 0, none⟩ = some (.pointer (some ⟨fb, 0, none⟩))) :
    Calls Try.prog 197 #[.int .i64 r, .int .i64 c, .pointer (some ⟨bx, 0, none⟩)] w fun e w' => e = .returned (.int .i64 (cl c r)) ∧ Below w.heap.size w w' := by
  obtain ⟨g, rb, RA, rc, h1, h2, h3, h4, h5, h6⟩ := hf
  obtain ⟨a1, a2, a3⟩ := h5 c hc
  have f0 := a3 r hr
  obtain ⟨q, hq⟩ : ∃ q, rb c = q := ⟨_, rfl⟩
  rw [hq] at a2 f0
  have n1 : (c : Int) < (h : Int) := by omega
  have n2 : (r : Int) < (wd : Int) := by omega
  obtain ⟨v, hv⟩ : ∃ v, cl c r = v := ⟨_, rfl⟩
  rw [hv] at f0
  rw [hv]
  clear h5 h6 a1 a3 hq hv h4 h1 h2
  go_enter Try.func197, Try.ntmps197
  go_wp2
  try go_quiet (fail)
  try go_wp2
  go_ret
  exact ⟨rfl, by repeat (first | exact Below.refl _ _ | apply pw_below_drewN)⟩
theorem enter_x (args : Array Value) (W : World) : (callFunc 197 args).run Try.prog W = .ok (.enter 197 args) W := by kernel_rfl
set_option maxRecDepth 100000 in
set_option maxHeartbeats 8000000 in
theorem crossed_any (fb h wd : Nat) (cl : Nat → Nat → Int) (boxes : List Box) (hh : 1 ≤ h ∧ h ≤ 6) (hw : 1 ≤ wd ∧ wd ≤ 6) (w : World) (hf : FloorR w fb h wd cl boxes) :
    Calls Try.prog 145 #[.pointer (some ⟨fb, 0, none⟩)] w fun e w' => Grown w w' wd h (fun r c => cl c r) e := by
  have HF := Aside0.mk hf
  obtain ⟨g, rb, RA, rc, h1, h2, h3, h4, h5, h6⟩ := hf
  obtain ⟨b1, b2, b3⟩ := h5 0 (by omega)
  have HHI : Aside0 (∀ W, W.cell? ⟨fb, 0, none⟩ = some (.slice (some ⟨g, 0, none⟩) h h) → Calls Try.prog 120 #[.pointer (some ⟨fb, 0, none⟩)] W fun e w' => e = .returned (.int .i64 h) ∧ w' = W) := ⟨fun W hW => high_any _ _ h h W hW⟩
  have HWI : Aside0 (∀ W, W.cell? ⟨fb, 0, none⟩ = some (.slice (some ⟨g, 0, none⟩) h h) → W.cell? ⟨g, 0, none⟩ = some (.slice (some ⟨rb 0, 0, none⟩) wd wd) → Calls Try.prog 113 #[.pointer (some ⟨fb, 0, none⟩)] W fun e w' => e = .returned (.int .i64 wd) ∧ w' = W) := ⟨fun W hW hW2 => wide_any _ g h h hh.1 _ wd wd W hW hW2⟩
  have HBL : Aside0 (∀ W, Below w.heap.size w W → W.cell? ⟨w.heap.size, 0, none⟩ = some (.pointer (some ⟨fb, 0, none⟩)) → w.heap.size < W.heap.size → Calls Try.prog 116 #[.int .i64 wd, .int .i64 h, .func (.func 197) #[] #[.pointer (some ⟨w.heap.size, 0, none⟩)]] W fun e w' => Grown W w' wd h (fun r c => cl c r) e) := ⟨fun W hW hbx hlt => blank_ro wd h ⟨by omega, by omega⟩ ⟨by omega, by omega⟩ 197 #[.pointer (some ⟨w.heap.size, 0, none⟩)] _ W enter_x (fun r c W' hr hc hB => crossed1_any w.heap.size fb h wd cl boxes r c hr hc hh.2 hw.2 W' (HF.out.below (hW.trans (hB.mono hW.size))) ((hB.cell (p := ⟨w.heap.size, 0, none⟩) hlt).trans hbx))⟩
  have HB0 : Aside0 (Below w.heap.size w (w.alloc (.cells #[.pointer (some ⟨fb, 0, none⟩)] 51))) := ⟨(Below.refl _ _).alloc (Nat.le_refl _) _⟩
  have HC0 : Aside0 ((w.alloc (.cells #[.pointer (some ⟨fb, 0, none⟩)] 51)).cell? ⟨w.heap.size, 0, none⟩ = some (.pointer (some ⟨fb, 0, none⟩))) := ⟨by rw [Lib.cell_of_heap (heap_alloc_new w _)]; rfl⟩
  have HC1 : Aside0 ((w.alloc (.cells #[.pointer (some ⟨fb, 0, none⟩)] 51)).cell? ⟨fb, 0, none⟩ = some (.slice (some ⟨g, 0, none⟩) h h)) := ⟨(HB0.out.cell (p := ⟨fb, 0, none⟩) h1).trans h3⟩
  have HC2 : Aside0 ((w.alloc (.cells #[.pointer (some ⟨fb, 0, none⟩)] 51)).cell? ⟨g, 0, none⟩ = some (.slice (some ⟨rb 0, 0, none⟩) wd wd)) := ⟨(HB0.out.cell (p := ⟨g, 0, none⟩) h2).trans b2⟩
  clear h5 h6 h1 h2 h3 h4 b1 b2 b3
  go_enter Try.func145, Try.ntmps145
  go_wp2_with fail
  go_region_held3 (fun w' => w'.cell? ⟨w.heap.size, 0, none⟩ = some (.pointer (some ⟨fb, 0, none⟩))) (first
    | exact HC0.out
    | exact hc4
    | (go_simp)) (first
    | (go_at_call 120; refine Calls.mono (HHI.out _ HC1.out) ?_; rintro e w3 ⟨rfl, rfl⟩)
    | (go_at_call 113; refine Calls.mono (HWI.out _ HC1.out HC2.out) ?_; rintro e w3 ⟨rfl, rfl⟩)
    | (go_at_call 116; refine Calls.mono (HBL.out _ (by repeat (first | exact HB0.out | apply pw_below_drewN)) HC0.out (by simp)) ?_; rintro e w4 ⟨gb, rows, rfl, g1, g2, g3⟩; have hc4 : w4.cell? ⟨w.heap.size, 0, none⟩ = some (.pointer (some ⟨fb, 0, none⟩)) := (g3.cell (p := ⟨w.heap.size, 0, none⟩) (by simp)).trans HC0.out; have HG := Aside0.mk (And.intro g1 (And.intro g2 g3)); clear g1 g2 g3))
  all_goals
    go_wp2_with fail
    go_ret
    exact ⟨gb, rows, rfl, HG.out.1, HG.out.2.1, Below.trans (by repeat (first | exact HB0.out | apply pw_below_drewN)) (HG.out.2.2.mono HB0.out.size)⟩
theorem enter_xu (args : Array Value) (W : World) : (callFunc 145 args).run Try.prog W = .ok (.enter 145 args) W := by kernel_rfl
def transR (p : List ByteArray) : List (List Int) := gridV (wdP p) p.length fun r c => clP p c r
set_option maxHeartbeats 4000000 in
theorem planTrans_any (A : Option Addr) (cap : Nat) (p : List ByteArray) (hp : SmallP p) (w : World) (hr0 : Kd.C Kd.string w A p.length p) (hc0 : p.length ≤ cap) :
    Calls Try.prog 75 #[.slice A p.length cap] w fun e w' => RemadeE p (transR p) w w' e := by
  have HR := remade_any 145 enter_xu A cap p hp (wdP p) p.length (fun r c => clP p c r)
    (fun h => ⟨by have := (planFlat h).wide; omega, by have := (planFlat h).high; omega, fun r c hr hc => clP_small h hc hr⟩)
    (fun h fb W hF => crossed_any fb p.length (wdP p) (clP p) (boxesP p) (planFlat h).high (planFlat h).wide W hF) w hr0 hc0
  clear hr0
  go_enter Try.func75, Try.ntmps75
  go_wp2_with fail
  refine HR.mono ?_
  rintro e w1 ⟨⟨A1, c1, ⟨V, b⟩, hv, rfl, h1, h2⟩, hb⟩
  have HC := Aside0.mk (And.intro hv (And.intro h1 (And.intro h2 hb)))
  clear hv h1 h2 hb
  dsimp only
  go_wp2_with fail
  go_ret2
  exact ⟨⟨A1, c1, (V, b), HC.out.1, rfl, HC.out.2.1, HC.out.2.2.1⟩, HC.out.2.2.2⟩
/-- A floor with rows and columns exchanged. -/
theorem flat_trans {cl : Nat → Nat → Int} {boxes : List Box} {h wd : Nat} (F : Flat cl boxes h wd) : Flat (fun r c => cl c r) (boxes.map fun b => (b.2.1, b.1, b.2.2.2, b.2.2.1)) wd h := by
  refine ⟨F.wide, F.high, by rw [List.length_map]; exact F.few, fun i j hi hj => ?_, fun k hk => ?_⟩
  · rw [List.length_map]; exact F.num _ _ hj hi
  · rw [List.length_map] at hk
    obtain ⟨a, b, c, d, e, h1, h2, h3, h4, hc⟩ := F.box k hk
    refine ⟨b, a, d, c, ?_, h2, h1, h4, h3, fun i j hi hj => ?_⟩
    · rw [List.getElem_map, e]; rfl
    · rw [hc j i hj hi]; omega
theorem trans_plan {p : List ByteArray} (hp : planG p = true) : ∃ q, planV (transR p) = (q, true) ∧ Planned (fun r c => clP p c r) (wdP p) p.length q := planned (flat_trans (planFlat hp))
theorem planTrans_is (A : Option Addr) (cap : Nat) (p : List ByteArray) (hp : SmallP p) (hpl : planG p = true) (w : World) (hr0 : Kd.C Kd.string w A p.length p) (hc0 : p.length ≤ cap) :
    Calls Try.prog 75 #[.slice A p.length cap] w fun e w' => MadeE (fun r c => clP p c r) (wdP p) p.length w w' e :=
  (planTrans_any A cap p hp w hr0 hc0).mono fun e w' h => RemadeE.made hpl (trans_plan hpl) h
end Go.Proofs.Ytdhnjecbdclmaaa
end
