/- The program's turned and flipped: the cells of a plan seen otherwise. -/
import Derived.Test.YtbpppchkgjcahaaKCFloorRM
namespace Go.Proofs.Ytbpppchkgjcahaa
open Go.RowKit Go.Shelf Go.Proofs.YtbpppchkgjcahaaW.PrintWords Go.Proofs.YtbpppchkgjcahaaW.PrintMore
set_option linter.unusedVariables false
set_option linter.unusedSimpArgs false
set_option maxRecDepth 100000 in
set_option maxHeartbeats 8000000 in
theorem flipped1_any (bx fb h wd : Nat) (cl : Nat → Nat → Int) (boxes : List Box) (r c : Nat) (hr : r < h) (hc : c < wd) (hh : h ≤ 6) (hw : wd ≤ 6) (w : World) (hf : FloorR w fb h wd cl boxes) (hb : w.cell? ⟨bx, 0, none⟩ = some (.pointer (some ⟨fb, 0, none⟩))) :
    Calls Try.prog 143 #[.int .i64 r, .int .i64 c, .pointer (some ⟨bx, 0, none⟩)] w fun e w' => e = .returned (.int .i64 (cl r (wd - 1 - c))) ∧ Below w.heap.size w w' := by
  obtain ⟨g, rb, RA, rc, h1, h2, h3, h4, h5, h6⟩ := hf
  obtain ⟨a1, a2, a3⟩ := h5 r hr
  obtain ⟨b1, b2, b3⟩ := h5 0 (by omega)
  have f0 := a3 (wd - 1 - c) (by omega)
  obtain ⟨q, hq⟩ : ∃ q, rb r = q := ⟨_, rfl⟩
  rw [hq] at a2 f0
  obtain ⟨q0, hq0⟩ : ∃ q, rb 0 = q := ⟨_, rfl⟩
  rw [hq0] at b2
  have n1 : (c : Int) ≤ (wd : Int) - 1 := by omega
  have n2 : (wd : Int) - 1 - (c : Int) < (wd : Int) := by omega
  have n3 : (0 : Int) ≤ (wd : Int) - 1 - (c : Int) := by omega
  have n4 : (r : Int) < (h : Int) := by omega
  have w1 : IntKind.i64.wrap ((wd : Int) - 1) = (wd : Int) - 1 := by rw [IntKind.wrap_i64]; omega
  have w2 : IntKind.i64.wrap ((wd : Int) - 1 - (c : Int)) = (wd : Int) - 1 - (c : Int) := by rw [IntKind.wrap_i64]; omega
  have w3 : wrap64 ((wd : Int) - 1) = (wd : Int) - 1 := by unfold wrap64; omega
  have w4 : wrap64 ((wd : Int) - 1 - (c : Int)) = (wd : Int) - 1 - (c : Int) := by unfold wrap64; omega
  have HWI : Aside0 (∀ W, W.cell? ⟨fb, 0, none⟩ = some (.slice (some ⟨g, 0, none⟩) h h) → W.cell? ⟨g, 0, none⟩ = some (.slice (some ⟨q0, 0, none⟩) wd wd) → Calls Try.prog 125 #[.pointer (some ⟨fb, 0, none⟩)] W fun e w' => e = .returned (.int .i64 wd) ∧ w' = W) := ⟨fun W hW hW2 => wide_any _ g h h (by omega) _ wd wd W hW hW2⟩
  obtain ⟨v, hv⟩ : ∃ v, cl r (wd - 1 - c) = v := ⟨_, rfl⟩
  rw [hv] at f0
  rw [hv]
  clear h5 h6 a1 a3 hq hv h4 h1 h2 b1 b3 hq0
  go_enter Try.func143, Try.ntmps143
  go_wp2_with fail
  go_region_held3 (fun w' => w'.cell? ⟨bx, 0, none⟩ = some (.pointer (some ⟨fb, 0, none⟩)) ∧ w'.cell? ⟨fb, 0, none⟩ = some (.slice (some ⟨g, 0, none⟩) h h) ∧ w'.cell? ⟨g, r, none⟩ = some (.slice (some ⟨q, 0, none⟩) wd wd) ∧ w'.cell? ⟨q, wd - 1 - c, none⟩ = some (.int .i64 v)) (first
    | exact ⟨hb, h3, a2, f0⟩
    | (go_simp)) ((go_at_call 125; refine Calls.mono (HWI.out _ h3 b2) ?_; rintro e w3 ⟨rfl, rfl⟩))
  all_goals
    go_wp2_with fail
    go_ret
    exact ⟨rfl, by repeat (first | exact Below.refl _ _ | apply pw_below_drewN)⟩
def Grown (w w' : World) (hi wd : Nat) (val : Nat → Nat → Int) (e : Ending) : Prop := ∃ (gb : Nat) (rows : List (Nat × List Int)), e = .returned (.slice (some ⟨gb, 0, none⟩) hi hi) ∧ rows.map Prod.snd = (List.range hi).map (fun r => (List.range wd).map fun c => val r c) ∧ GridAt w' gb hi rows ∧ Below w.heap.size w w'
theorem enter_f (args : Array Value) (W : World) : (callFunc 143 args).run Try.prog W = .ok (.enter 143 args) W := by kernel_rfl
theorem div_at {wd r c : Nat} (hc : c < wd) : (r * wd + c) / wd = r ∧ (r * wd + c) % wd = c := by
  have h0 : 0 < wd := by omega
  refine ⟨?_, ?_⟩
  · rw [Nat.mul_comm, Nat.mul_add_div h0, Nat.div_eq_of_lt hc, Nat.add_zero]
  · rw [Nat.mul_comm, Nat.mul_add_mod, Nat.mod_eq_of_lt hc]
theorem spares_of {hb : Nat} {W W' : World} (h : Below W.heap.size W W') : Spares hb W W' := fun j cs t _ hj _ => by
  rw [h.block j (Array.getElem?_eq_some_iff.1 hj).1]; exact hj
theorem blank_ro (hi wd : Nat) (hhi : 1 ≤ hi ∧ hi ≤ 100) (hwd : 1 ≤ wd ∧ wd ≤ 100) (cl : Nat) (cap : Array Value) (val : Nat → Nat → Int) (w : World)
    (hent : ∀ args W, (callFunc cl args).run Try.prog W = .ok (.enter cl args) W)
    (hcall : ∀ r c W, r < hi → c < wd → Below w.heap.size w W → Calls Try.prog cl (#[.int .i64 r, .int .i64 c] ++ cap) W fun e W' => e = .returned (.int .i64 (val r c)) ∧ Below W.heap.size W W') :
    Calls Try.prog 134 #[.int .i64 hi, .int .i64 wd, .func (.func cl) #[] cap] w fun e w' => Grown w w' hi wd val e := by
  refine (blank_any hi wd hhi hwd cl cap (fun n => val (n / wd) (n % wd)) w.heap.size w (Nat.le_refl _) (fun _ _ => True) trivial (fun _ _ _ _ _ _ => trivial) hent ?_).mono ?_
  · intro r c W hr hc _ hB
    refine (hcall r c W hr hc hB).mono ?_
    rintro e W' ⟨rfl, hb⟩
    refine ⟨?_, trivial, hb.mono hB.size, spares_of hb⟩
    show _ = Ending.returned (.int .i64 (val ((r * wd + c) / wd) ((r * wd + c) % wd)))
    rw [(div_at hc).1, (div_at hc).2]
  · rintro e w' ⟨rows, rfl, h1, h2, _, _, h3⟩
    refine ⟨_, rows, rfl, h1.trans ?_, h2, h3⟩
    refine List.map_congr_left fun r _ => List.map_congr_left fun c hc => ?_
    have hc := List.mem_range.1 hc
    rw [(div_at hc).1, (div_at hc).2]
set_option maxRecDepth 100000 in
set_option maxHeartbeats 8000000 in
theorem flipped_any (fb h wd : Nat) (cl : Nat → Nat → Int) (boxes : List Box) (hh : 1 ≤ h ∧ h ≤ 6) (hw : 1 ≤ wd ∧ wd ≤ 6) (w : World) (hf : FloorR w fb h wd cl boxes) :
    Calls Try.prog 85 #[.pointer (some ⟨fb, 0, none⟩)] w fun e w' => Grown w w' h wd (fun r c => cl r (wd - 1 - c)) e := by
  have HF := Aside0.mk hf
  obtain ⟨g, rb, RA, rc, h1, h2, h3, h4, h5, h6⟩ := hf
  obtain ⟨b1, b2, b3⟩ := h5 0 (by omega)
  have HHI : Aside0 (∀ W, W.cell? ⟨fb, 0, none⟩ = some (.slice (some ⟨g, 0, none⟩) h h) → Calls Try.prog 124 #[.pointer (some ⟨fb, 0, none⟩)] W fun e w' => e = .returned (.int .i64 h) ∧ w' = W) := ⟨fun W hW => high_any _ _ h h W hW⟩
  have HWI : Aside0 (∀ W, W.cell? ⟨fb, 0, none⟩ = some (.slice (some ⟨g, 0, none⟩) h h) → W.cell? ⟨g, 0, none⟩ = some (.slice (some ⟨rb 0, 0, none⟩) wd wd) → Calls Try.prog 125 #[.pointer (some ⟨fb, 0, none⟩)] W fun e w' => e = .returned (.int .i64 wd) ∧ w' = W) := ⟨fun W hW hW2 => wide_any _ g h h hh.1 _ wd wd W hW hW2⟩
  have HBL : Aside0 (∀ W, Below w.heap.size w W → W.cell? ⟨w.heap.size, 0, none⟩ = some (.pointer (some ⟨fb, 0, none⟩)) → w.heap.size < W.heap.size → Calls Try.prog 134 #[.int .i64 h, .int .i64 wd, .func (.func 143) #[] #[.pointer (some ⟨w.heap.size, 0, none⟩)]] W fun e w' => Grown W w' h wd (fun r c => cl r (wd - 1 - c)) e) := ⟨fun W hW hbx hlt => blank_ro h wd ⟨by omega, by omega⟩ ⟨by omega, by omega⟩ 143 #[.pointer (some ⟨w.heap.size, 0, none⟩)] _ W enter_f (fun r c W' hr hc hB => flipped1_any w.heap.size fb h wd cl boxes r c hr hc hh.2 hw.2 W' (HF.out.below (hW.trans (hB.mono hW.size))) ((hB.cell (p := ⟨w.heap.size, 0, none⟩) hlt).trans hbx))⟩
  have HB0 : Aside0 (Below w.heap.size w (w.alloc (.cells #[.pointer (some ⟨fb, 0, none⟩)] 61))) := ⟨(Below.refl _ _).alloc (Nat.le_refl _) _⟩
  have HC0 : Aside0 ((w.alloc (.cells #[.pointer (some ⟨fb, 0, none⟩)] 61)).cell? ⟨w.heap.size, 0, none⟩ = some (.pointer (some ⟨fb, 0, none⟩))) := ⟨by rw [Lib.cell_of_heap (heap_alloc_new w _)]; rfl⟩
  have HC1 : Aside0 ((w.alloc (.cells #[.pointer (some ⟨fb, 0, none⟩)] 61)).cell? ⟨fb, 0, none⟩ = some (.slice (some ⟨g, 0, none⟩) h h)) := ⟨(HB0.out.cell (p := ⟨fb, 0, none⟩) h1).trans h3⟩
  have HC2 : Aside0 ((w.alloc (.cells #[.pointer (some ⟨fb, 0, none⟩)] 61)).cell? ⟨g, 0, none⟩ = some (.slice (some ⟨rb 0, 0, none⟩) wd wd)) := ⟨(HB0.out.cell (p := ⟨g, 0, none⟩) h2).trans b2⟩
  clear h5 h6 h1 h2 h3 h4 b1 b2 b3
  go_enter Try.func85, Try.ntmps85
  go_wp2_with fail
  go_region_held3 (fun w' => w'.cell? ⟨w.heap.size, 0, none⟩ = some (.pointer (some ⟨fb, 0, none⟩))) (first
    | exact HC0.out
    | exact hc4
    | (go_simp)) (first
    | (go_at_call 124; refine Calls.mono (HHI.out _ HC1.out) ?_; rintro e w3 ⟨rfl, rfl⟩)
    | (go_at_call 125; refine Calls.mono (HWI.out _ HC1.out HC2.out) ?_; rintro e w3 ⟨rfl, rfl⟩)
    | (go_at_call 134; refine Calls.mono (HBL.out _ (by repeat (first | exact HB0.out | apply pw_below_drewN)) HC0.out (by simp)) ?_; rintro e w4 ⟨gb, rows, rfl, g1, g2, g3⟩; have hc4 : w4.cell? ⟨w.heap.size, 0, none⟩ = some (.pointer (some ⟨fb, 0, none⟩)) := (g3.cell (p := ⟨w.heap.size, 0, none⟩) (by simp)).trans HC0.out; have HG := Aside0.mk (And.intro g1 (And.intro g2 g3)); clear g1 g2 g3))
  all_goals
    go_wp2_with fail
    go_ret
    exact ⟨gb, rows, rfl, HG.out.1, HG.out.2.1, Below.trans (by repeat (first | exact HB0.out | apply pw_below_drewN)) (HG.out.2.2.mono HB0.out.size)⟩
end Go.Proofs.Ytbpppchkgjcahaa
