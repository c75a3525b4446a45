/- slices.Clone on the rows of a grid; PlanTight's columns, while they are gathered. -/
import Derived.Test.YtdhnjecbdclmaaaKICompR
namespace Go.Proofs.Ytdhnjecbdclmaaa
open Go.RowKit Go.Shelf Go.Lib Go.Sort Go.Proofs.YtdhnjecbdclmaaaW.PrintWords Go.Proofs.YtdhnjecbdclmaaaW.PrintMore
set_option linter.unusedVariables false
set_option linter.unusedSimpArgs false
theorem slice_info : (Try.prog.info? 37).map (fun i => (i.zero, i.size, i.bytes)) = some (some (.slice none 0 0), 1, 24) := by kernel_rfl
theorem info_int : (Try.prog.info? 3).map (fun i => (i.zero, i.size, i.bytes)) = some (some (.int .i64 0), 1, 8) := by kernel_rfl
theorem owns_cell {w : World} {base : Nat} {e : TypeId} {g n cap : Nat} {xs : List Value} (h : w.ownsRow base e 1 (.slice (some ⟨g, 0, none⟩) n cap) n xs) {j : Nat} {u : Value} (hj : xs[j]? = some u) : w.cell? ⟨g, j, none⟩ = some u ∧ w.frozen? ⟨g, j, none⟩ = false := by
  rcases h.2 with ⟨h0, _⟩ | ⟨g', cap', cur, hv, hb, hg, hn, hm, hs, ht⟩
  · exact absurd h0 (by simp)
  · simp only [Value.slice.injEq, Option.some.injEq, Addr.mk.injEq, and_true] at hv
    obtain ⟨rfl, rfl⟩ := hv.imp_right And.right
    refine ⟨?_, Lib.frozen_of_heap hg j⟩
    rw [Lib.cell_of_heap hg]
    have hjl := (List.getElem?_eq_some_iff.1 hj).1
    rw [h.1, Nat.mul_one] at hjl
    rw [← ht, Nat.mul_one, List.getElem?_take_of_lt hjl] at hj
    simpa using hj
set_option maxRecDepth 100000 in
set_option maxHeartbeats 4000000 in
theorem cloneRows_any (g h wd : Nat) (rb : Nat → Nat) (hh : 1 ≤ h ∧ h ≤ 6) (w : World) (hc : ∀ r, r < h → w.cell? ⟨g, r, none⟩ = some (.slice (some ⟨rb r, 0, none⟩) wd wd)) :
    Calls Try.prog 111 #[.slice (some ⟨g, 0, none⟩) h h] w fun e w' => ∃ B cap, e = .returned (.slice (some ⟨B, 0, none⟩) h cap) ∧ h ≤ cap ∧ w.heap.size ≤ B ∧ B < w'.heap.size ∧ Holds (encO rb wd) w' B 0 ((List.range h).map some).toArray ∧ Below w.heap.size w w' := by
  obtain ⟨i0, hi, hzz⟩ := Option.map_eq_some_iff.1 slice_info
  simp only [Prod.mk.injEq] at hzz
  obtain ⟨hz0, hz1, hz2⟩ := hzz
  have q22 : ∀ (w : World) (a : Option Addr) (n c n' c' : Nat), (binOp .eql 77 (.slice a n c) (.slice none n' c')).run Try.prog w = .ok (.bool a.isNone) w := fun w a n c n' c' => Lib.run_eql_slice_nil w _ _ a n c n' c' Try.underlying77
  have A := Aside0.mk hc
  clear hc
  obtain ⟨news, hnews⟩ : ∃ news, ((List.range h).map some).map (encO rb wd) = news := ⟨_, rfl⟩
  have HN := Aside0.mk hnews
  have hl : news.length = h := by rw [← hnews]; simp
  clear hnews
  go_enter Try.func111, Try.ntmps111
  go_wp2_with (at_builtin; refine wpList_append_own _ rfl _ _ 77 rfl w.heap.size 37 i0 (.slice none 0 0) 1 24 Try.underlying77 hi hz0 hz1 hz2 rfl (by decide) _ _ _ rfl (World.ownsRow_made w #[] 0 (Nat.le_refl _) (Nat.zero_le _) (by simp)) ⟨g, 0, none⟩ h h news rfl ?qc1 ?qc2 ?qc3 ?qc4 ?qc5 ?qc6 ?_)
  case qc1 => rw [hl, Nat.mul_one]
  case qc2 =>
    intro j u hj
    rw [← HN.out] at hj
    simp only [List.map_map, List.getElem?_map] at hj
    obtain ⟨r, hr, rfl⟩ := Option.map_eq_some_iff.1 hj
    obtain ⟨hr1, hr2⟩ := List.getElem?_eq_some_iff.1 hr
    rw [List.length_range] at hr1
    rw [List.getElem_range] at hr2
    subst hr2
    rw [Addr.add_lit, Nat.zero_add]
    exact Lib.cell?_alloc_some _ (A.out j hr1)
  case qc3 =>
    intro u hu
    rw [← HN.out] at hu
    simp only [List.map_map, List.mem_map] at hu
    obtain ⟨r, _, rfl⟩ := hu
    rfl
  case qc4 => unfold maxLen; omega
  case qc5 => omega
  case qc6 => simp
  intro v' w1 hown hgrow hnil
  go_wp2_with fail
  go_ret
  have hown' := hown
  rcases hown'.2 with ⟨h0, h1⟩ | ⟨B, cap, cur, rfl, hb, hg, hn, hm, hs, ht⟩
  · omega
  · refine ⟨B, cap, rfl, hn, hb, (Array.getElem?_eq_some_iff.1 hg).1, fun j hj => ?_, ((Below.refl _ w).alloc (Nat.le_refl _) _).grown hgrow (by simp) (by intro k hk; simp [Value.ownBlock] at hk; omega)⟩
    have hj : j < h := by simpa using hj
    rw [Nat.zero_add, getElem!_pos _ j (by simpa using hj)]
    have hu : news[j]? = some (encO rb wd (some j)) := by
      rw [← HN.out]
      simp [List.getElem?_range hj]
    have := owns_cell hown hu
    simpa using this
theorem kept_tells (cl : Nat → Nat → Int) (h wd c : Nat) (hh : 1 ≤ h) (hc : c < wd) :
    ((List.range (tightH cl h wd)).any fun r => decide (c = 0) || cl ((keptL (keptR cl wd) h).getD r 0) c != cl ((keptL (keptR cl wd) h).getD r 0) (c - 1)) = keptC cl h c := by
  obtain ⟨H, rfl⟩ : ∃ H, h = H + 1 := ⟨h - 1, by omega⟩
  have hk := (keptL_at (keptR cl wd) rfl H)
  have hH : 0 < tightH cl (H + 1) wd := by unfold tightH; rw [hk.1]; omega
  unfold keptC
  by_cases h0 : c = 0
  · rw [decide_eq_true h0, Bool.true_or]
    refine List.any_eq_true.2 ⟨0, List.mem_range.2 hH, Bool.true_or _⟩
  · rw [decide_eq_false h0, Bool.false_or]
    simp only [decide_eq_false h0, Bool.false_or]
    refine Bool.eq_iff_iff.2 ⟨fun hx => ?_, fun hx => ?_⟩
    · obtain ⟨r, hr, hne⟩ := List.any_eq_true.1 hx
      have hr := List.mem_range.1 hr
      refine List.any_eq_true.2 ⟨(keptL (keptR cl wd) (H + 1)).getD r 0, ?_, hne⟩
      unfold tightH at hr
      have hm : (keptL (keptR cl wd) (H + 1)).getD r 0 ∈ keptL (keptR cl wd) (H + 1) := by
        rw [List.getD_eq_getElem?_getD, List.getElem?_eq_getElem hr]
        exact List.getElem_mem hr
      exact (List.mem_filter.1 hm).1
    · obtain ⟨i, hi, hne⟩ := List.any_eq_true.1 hx
      have hi := List.mem_range.1 hi
      have e := hk.2 i hi
      have hp : phi (keptR cl wd) i < tightH cl (H + 1) wd := (List.getElem?_eq_some_iff.1 e).1
      refine List.any_eq_true.2 ⟨phi (keptR cl wd) i, List.mem_range.2 hp, ?_⟩
      rw [List.getD_eq_getElem?_getD, e]
      show (cl (top _ i) c != cl (top _ i) (c - 1)) = true
      rw [row_top cl wd i c hc, row_top cl wd i (c - 1) (by omega)]
      exact hne
structure ColW (x : Nat) (W0 W : World) (cols : List Int) : Prop where
  lt : x < W0.heap.size
  os : W.os = W0.os
  tape : W.tape = W0.tape
  output : W.output = W0.output
  size : W0.heap.size ≤ W.heap.size
  block : ∀ k, k < W0.heap.size → k ≠ x → W.heap[k]? = W0.heap[k]?
  has : ∃ v, W.heap[x]? = some (.cells #[v] 37 (0, 0)) ∧ W.ownsRow W0.heap.size 3 1 v cols.length (encs (Value.int .i64) cols)
theorem ColW.drewN {x : Nat} {W0 W : World} {cols : List Int} (h : ColW x W0 W cols) (q : Nat) : ColW x W0 (W.drewN q) cols := ⟨h.lt, h.os, h.tape, h.output, h.size, h.block, h.has⟩
theorem ColW.alloc {x : Nat} {W0 W : World} {cols : List Int} (h : ColW x W0 W cols) (o : Obj) : ColW x W0 (W.alloc o) cols := by
  obtain ⟨h1, h2, h3, h4, h5, h6, v, h7, h8⟩ := h
  refine ⟨h1, h2, h3, h4, by simp; omega, fun k hk hne => ?_, v, ?_, h8.alloc o⟩
  · rw [Below.heap_alloc _ _ _ (by omega)]; exact h6 k hk hne
  · rw [Below.heap_alloc _ _ _ (by omega)]; exact h7
theorem ColW.cell {x : Nat} {W0 W : World} {cols : List Int} (h : ColW x W0 W cols) {a : Addr} (ha : a.block < W0.heap.size) (hne : a.block ≠ x) : W.cell? a = W0.cell? a := World.cell?_of_block (h.block a.block ha hne)
theorem ColW.put {x : Nat} {W0 W W' : World} {cols : List Int} (h : ColW x W0 W cols) {v v' : Value} {c : Int} (hv : W.heap[x]? = some (.cells #[v] 37 (0, 0))) (hown : W.ownsRow W0.heap.size 3 1 v cols.length (encs (Value.int .i64) cols)) (hg : W.grownBy W' v.ownBlock)
    (hown' : W'.ownsRow W0.heap.size 3 1 v' (cols.length + 1) (encs (Value.int .i64) cols ++ [.int .i64 c])) : ColW x W0 (W'.setCell ⟨x, 0, none⟩ v') (cols ++ [c]) := by
  have hx : some x ≠ v.ownBlock := fun e => by
    have := (hown.lt x e.symm).1
    have := h.lt
    omega
  have hb : W'.heap[x]? = some (.cells #[v] 37 (0, 0)) := by rw [hg.block x (Array.getElem?_eq_some_iff.1 hv).1 hx]; exact hv
  refine ⟨h.lt, hg.os.trans h.os, hg.tape.trans h.tape, hg.output.trans h.output, ?_, fun k hk hne => ?_, v', ?_, ?_⟩
  · rw [World.size_setCell]; exact Nat.le_trans h.size hg.size
  · rw [Below.heap_setCell _ _ _ _ hne, hg.block k (Nat.lt_of_lt_of_le hk h.size) (fun e => ?_)]
    · exact h.block k hk hne
    · have := (hown.lt k e.symm).1; omega
  · simp [World.setCell, Array.getElem?_modify, hb]
  · have := ownsRow_setCell_below hown' (a := ⟨x, 0, none⟩) h.lt v'
    simpa [encs] using this
end Go.Proofs.Ytdhnjecbdclmaaa
