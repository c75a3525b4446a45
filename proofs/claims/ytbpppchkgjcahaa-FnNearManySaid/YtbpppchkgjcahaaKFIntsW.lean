/- Rows of numbers in memory, each in a block of its own; blank, with its rows apart. -/
import Derived.Test.YtbpppchkgjcahaaKFTurn
namespace Go.Proofs.Ytbpppchkgjcahaa
open Go.RowKit Go.Shelf Go.Proofs.YtbpppchkgjcahaaW.PrintWords Go.Proofs.YtbpppchkgjcahaaW.PrintMore
set_option linter.unusedVariables false
set_option linter.unusedSimpArgs false
set_option maxRecDepth 100000 in
set_option maxHeartbeats 8000000 in
theorem blankD_any (hi wd : Nat) (hhi : 1 ≤ hi ∧ hi ≤ 100) (hwd : 1 ≤ wd ∧ wd ≤ 100) (cl : Nat) (cap : Array Value) (val : Nat → Int) (base : Nat) (w : World) (hbase : base ≤ w.heap.size) (I : Nat → World → Prop)
    (hI0 : I 0 w) (hIL : ∀ n W W', I n W → Below base w W → Leaves w.heap.size W W' → I n W')
    (hent : ∀ args W, (callFunc cl args).run Try.prog W = .ok (.enter cl args) W)
    (hcall : ∀ r c W, r < hi → c < wd → I (r * wd + c) W → Below base w W → Calls Try.prog cl (#[.int .i64 r, .int .i64 c] ++ cap) W fun e W' => e = .returned (.int .i64 (val (r * wd + c))) ∧ I (r * wd + c + 1) W' ∧ Below base W W' ∧ Spares w.heap.size W W') :
    Calls Try.prog 134 #[.int .i64 hi, .int .i64 wd, .func (.func cl) #[] cap] w fun e w' =>
      ∃ rows : List (Nat × List Int), e = .returned (.slice (some ⟨w.heap.size, 0, none⟩) hi hi) ∧ rows.map Prod.snd = (List.range hi).map (fun r => (List.range wd).map fun c => val (r * wd + c)) ∧ GridAt w' w.heap.size hi rows ∧ (∀ x ∈ rows, w.heap.size < x.1) ∧ I (hi * wd) w' ∧ (rows.map Prod.fst).Nodup ∧ Below base w w' := by
  have mk1 : ∀ W : World, (Instr.makeSlice 65 (.int .i64 (hi : Int)) (.int .i64 (hi : Int))).run Try.prog W = .ok (.slice (some ⟨W.heap.size, 0, none⟩) hi hi) (W.alloc (.cells (madeCells #[.slice none 0 0] hi) 34)) :=
    fun W => run_make_row' 65 34 (.slice none 0 0) 24 Try.underlying65 (by kernel_rfl) rfl .i64 .i64 hi (by omega) (by omega) W
  have mk2 : ∀ W : World, (Instr.makeSlice 34 (.int .i64 (wd : Int)) (.int .i64 (wd : Int))).run Try.prog W = .ok (.slice (some ⟨W.heap.size, 0, none⟩) wd wd) (W.alloc (.cells (madeCells #[.int .i64 0] wd) 3)) :=
    fun W => run_make_row' 34 3 (.int .i64 0) 8 Try.underlying34 (by kernel_rfl) rfl .i64 .i64 wd (by omega) (by omega) W
  have HI0 := Aside0.mk hI0
  have HIL := Aside0.mk hIL
  have HCALL := Aside0.mk hcall
  have HBASE := Aside0.mk hbase
  clear hI0 hIL hcall hbase
  go_enter Try.func134, Try.ntmps134
  go_wp2
  go_loopw [14] (fun i wr => ∃ (r : Nat) (rows : List (Nat × List Int)), i = .int .i64 r ∧ r ≤ hi ∧ Aside0 (rows.length = r ∧ rows.map Prod.snd = (List.range r).map (fun r => (List.range wd).map fun c => val (r * wd + c)) ∧ GridAt wr w.heap.size hi rows ∧ (∀ x ∈ rows, w.heap.size < x.1) ∧ I (r * wd) wr ∧ Below base w wr) ∧ Aside0 ((rows.map Prod.fst).Nodup)) (fun i _ => hi - (intOf i).toNat)
  case atStart =>
    refine ⟨0, [], rfl, by omega, ⟨rfl, rfl, ⟨?_, by simp⟩, by simp, ?_, (Below.refl _ _).alloc HBASE.out _⟩, ⟨List.nodup_nil⟩⟩
    · rw [heap_alloc_new, made_rep]; rfl
    · rw [Nat.zero_mul]; exact HIL.out 0 w _ HI0.out (Below.refl _ _) ((Leaves.refl _ _).alloc _)
  case round =>
    obtain ⟨r, rows, rfl, hr, HR, HND⟩ := hrel
    obtain ⟨wo, rfl⟩ : ∃ wo : World, wo = wr := ⟨_, rfl⟩
    by_cases hlt : (r : Int) < (hi : Int)
    · have hc0 : wo.cell? ⟨w.heap.size, r, none⟩ = some (.slice none 0 0) := HR.out.2.2.1.cell r _ (by
        rw [List.getElem?_append_right (by rw [List.length_map, HR.out.1]; exact Nat.le_refl _), List.length_map, HR.out.1, Nat.sub_self, List.getElem?_replicate, if_pos (by omega)])
      have hz0 : wo.frozen? ⟨w.heap.size, r, none⟩ = false := Lib.frozen_of_heap HR.out.2.2.1.1 r
      have hr0 : (0 : Int) ≤ (r : Int) := by omega
      have ha : (wo.alloc (.cells (madeCells #[.int .i64 0] wd) 3)).heap[w.heap.size]? = wo.heap[w.heap.size]? := Below.heap_alloc _ _ _ (Array.getElem?_eq_some_iff.1 HR.out.2.2.1.1).1
      have hc1 : (wo.alloc (.cells (madeCells #[.int .i64 0] wd) 3)).cell? ⟨w.heap.size, r, none⟩ = some (.slice none 0 0) := (World.cell?_of_block ha).trans hc0
      have hz1 : (wo.alloc (.cells (madeCells #[.int .i64 0] wd) 3)).frozen? ⟨w.heap.size, r, none⟩ = false := (World.frozen?_of_block ha).trans hz0
      clear ha
      have hgl : w.heap.size < wo.heap.size := (Array.getElem?_eq_some_iff.1 HR.out.2.2.1.1).1
      have HGL := Aside0.mk hgl
      clear hgl
      go_wp2
      have HO := Aside0.mk (HR.out.2.2.1.open_ (wd := wd) (by rw [HR.out.1]; omega))
      go_loopw [27] (fun i w2 => ∃ c : Nat, i = .int .i64 c ∧ c ≤ wd ∧ Aside0 (GridAt w2 w.heap.size hi (rows ++ [(wo.heap.size, part wd val r c)]) ∧ I (r * wd + c) w2 ∧ Below base w w2)) (fun i _ => wd - (intOf i).toNat)
      case atStart =>
        refine ⟨0, rfl, by omega, ⟨?_, ?_, ?_⟩⟩
        · rw [part_zero]
          have h := HO.out
          rw [HR.out.1] at h
          exact h
        · refine HIL.out _ wo _ HR.out.2.2.2.2.1 HR.out.2.2.2.2.2 (((Leaves.refl _ _).alloc _).setCell _ (fun j hj hc e => ?_))
          rcases hc with hc | hc
          · omega
          · rw [e] at hc
            exact absurd rfl (hc _ _ HR.out.2.2.1.1).2
        · exact (HR.out.2.2.2.2.2.alloc (Nat.le_trans HBASE.out (Nat.le_of_lt HGL.out)) _).setCell (p := ⟨w.heap.size, r, none⟩) HBASE.out _
      case round =>
        obtain ⟨c, rfl, hc, HC⟩ := hrel
        have HI1 : Aside0 (I (r * wd + c) wr.drew) := ⟨HIL.out _ wr _ HC.out.2.1 HC.out.2.2 ⟨Nat.le_refl _, fun _ _ _ => rfl⟩⟩
        have cg : wr.cell? ⟨w.heap.size, r, none⟩ = some (.slice (some ⟨wo.heap.size, 0, none⟩) wd wd) := HC.out.1.cell r _ (by
          rw [List.getElem?_append_left (by rw [List.length_map, List.length_append, HR.out.1]; exact Nat.lt_succ_self _), List.map_append, List.getElem?_append_right (by rw [List.length_map, HR.out.1]; exact Nat.le_refl _), List.length_map, HR.out.1, Nat.sub_self]
          simp [rowV, part_len wd val r c hc])
        have hc0 : (0 : Int) ≤ (c : Int) := by omega
        by_cases hcl : (c : Int) < (wd : Int)
        · have hne : w.heap.size ≠ wo.heap.size := Nat.ne_of_lt HGL.out
          go_wp2
          go_region_held3 (fun w' => w'.cell? ⟨w.heap.size, r, none⟩ = some (.slice (some ⟨wo.heap.size, 0, none⟩) wd wd)) (first
            | exact cg
            | exact cgx
            | (go_simp)) ((refine Calls.mono (HCALL.out r c _ (by omega) (by omega) HI1.out HC.out.2.2.drew) ?_; rintro e w3 ⟨rfl, hI3, hB3, hS3⟩; have HI3 := Aside0.mk hI3; have HB3 := Aside0.mk hB3; have HG3 : Aside0 (GridAt w3 w.heap.size hi (rows ++ [(wo.heap.size, part wd val r c)])) := ⟨HC.out.1.spared (W := wr.drew) hS3 (Nat.le_refl _) (fun x hx => (List.mem_append.1 hx).elim (fun hx => Nat.le_of_lt (HR.out.2.2.2.1 x hx)) (fun hx => by simp at hx; rw [hx]; exact Nat.le_of_lt HGL.out))⟩; have cgx : w3.cell? ⟨w.heap.size, r, none⟩ = some (.slice (some ⟨wo.heap.size, 0, none⟩) wd wd) := (World.cell?_of_block (HG3.out.1.trans HC.out.1.1.symm)).trans cg; have cxx : w3.cell? ⟨wo.heap.size, c, none⟩ = some (.int .i64 ((part wd val r c)[c]'(by rw [part_len wd val r c hc]; omega))) := IntRow.cell (HG3.out.2 (wo.heap.size, part wd val r c) (List.mem_append_right _ (List.mem_singleton.2 rfl))) c (by rw [part_len wd val r c hc]; omega); have zxx : w3.frozen? ⟨wo.heap.size, c, none⟩ = false := Lib.frozen_of_heap (HG3.out.2 _ (List.mem_append_right _ (List.mem_singleton.2 rfl))) c; clear hI3 hB3 hS3))
          go_wp2
          go_roundw
          case rel =>
            refine ⟨c + 1, by go_num, by omega, ⟨?_, ?_, ?_⟩⟩
            · rw [← part_set wd val r c (by omega)]
              exact HG3.out.put (fun x hx e => by have := HR.out.2.2.1; have hr2 := this.2 x hx; have := (Array.getElem?_eq_some_iff.1 hr2).1; omega) c _
            · refine HIL.out _ w3 _ HI3.out (HC.out.2.2.drew.trans HB3.out) ((Leaves.refl _ _).setCell _ (fun j hj hcx e => ?_))
              have hgr := HG3.out.2 (wo.heap.size, part wd val r c) (by simp)
              rcases hcx with hcx | hcx
              · have := HGL.out; omega
              · rw [e] at hcx
                exact absurd rfl (hcx _ _ hgr).1
            · exact (HC.out.2.2.drew.trans HB3.out).setCell (p := ⟨wo.heap.size, c, none⟩) (Nat.le_trans HBASE.out (Nat.le_of_lt HGL.out)) _
          case measure => simp [intOf]; omega
        · have hcw : c = wd := by omega
          subst hcw
          go_wp2
          go_roundw
          case rel =>
            refine ⟨r + 1, rows ++ [(wo.heap.size, part c val r c)], by go_num, by omega, ⟨by rw [List.length_append, HR.out.1]; rfl, ?_, HC.out.1, ?_, ?_, HC.out.2.2⟩, ?_⟩
            · rw [List.map_append, HR.out.2.1, List.range_succ, List.map_append, part_full]; rfl
            · intro x hx
              rcases List.mem_append.1 hx with hx | hx
              · exact HR.out.2.2.2.1 x hx
              · simp at hx; rw [hx]; exact HGL.out
            · rw [Nat.succ_mul]; exact HC.out.2.1
            · refine ⟨?_⟩
              rw [List.map_append]
              refine List.nodup_append.2 ⟨HND.out, by simp, fun a ha b hb => ?_⟩
              obtain ⟨x, hx, rfl⟩ := List.mem_map.1 ha
              obtain rfl : b = wo.heap.size := by simpa using hb
              have := (Array.getElem?_eq_some_iff.1 (HR.out.2.2.1.2 x hx)).1
              omega
          case measure => simp [intOf]; omega
    · have hrh : r = hi := by omega
      subst hrh
      go_wp2
      go_ret
      exact ⟨rfl, rows, HR.out.2.1, HR.out.2.2.1, (fun a b h => HR.out.2.2.2.1 (a, b) h), HR.out.2.2.2.2.1, HND.out, HR.out.2.2.2.2.2⟩
def tabRowI (T : Nat → Nat → Int) (n i : Nat) : List Value := (List.range n).map fun j => .int .i64 (T i j)
structure IntsW (W : World) (g n : Nat) (rb : Nat → Nat) (T : Nat → Nat → Int) : Prop where
  top : W.heap[g]? = some (.cells ((List.range n).map fun i => Value.slice (some ⟨rb i, 0, none⟩) n n).toArray 34 (0, 0))
  row : ∀ i, i < n → W.heap[rb i]? = some (.cells (tabRowI T n i).toArray 3 (0, 0))
  ne : ∀ i, i < n → rb i ≠ g
  inj : ∀ i j, i < n → j < n → rb i = rb j → i = j
theorem IntsW.cell {W : World} {g n : Nat} {rb : Nat → Nat} {T : Nat → Nat → Int} (h : IntsW W g n rb T) {i : Nat} (hi : i < n) : W.cell? ⟨g, i, none⟩ = some (.slice (some ⟨rb i, 0, none⟩) n n) := by
  rw [Lib.cell_of_heap h.top]
  simp [List.getElem?_range hi]
theorem IntsW.at {W : World} {g n : Nat} {rb : Nat → Nat} {T : Nat → Nat → Int} (h : IntsW W g n rb T) {i j : Nat} (hi : i < n) (hj : j < n) : W.cell? ⟨rb i, j, none⟩ = some (.int .i64 (T i j)) ∧ W.frozen? ⟨rb i, j, none⟩ = false := by
  refine ⟨?_, Lib.frozen_of_heap (h.row i hi) j⟩
  rw [Lib.cell_of_heap (h.row i hi)]
  simp [tabRowI, List.getElem?_range hj]
def setT (T : Nat → Nat → Int) (a b : Nat) (v : Int) : Nat → Nat → Int := fun i j => if i = a ∧ j = b then v else T i j
theorem IntsW.set {W : World} {g n : Nat} {rb : Nat → Nat} {T : Nat → Nat → Int} (h : IntsW W g n rb T) {a b : Nat} (ha : a < n) (hb : b < n) (v : Int) : IntsW (W.setCell ⟨rb a, b, none⟩ (.int .i64 v)) g n rb (setT T a b v) := by
  refine ⟨?_, fun i hi => ?_, h.ne, h.inj⟩
  · rw [Below.heap_setCell _ _ _ _ (by show g ≠ rb a; exact (h.ne a ha).symm)]; exact h.top
  · by_cases e : i = a
    · subst e
      have hr := h.row i hi
      have h1 : (W.setCell ⟨rb i, b, none⟩ (.int .i64 v)).heap[rb i]? = some (.cells ((tabRowI T n i).toArray.setIfInBounds b (.int .i64 v)) 3 (0, 0)) := by
        simp [World.setCell, Array.getElem?_modify, hr]
      rw [h1]
      congr 2
      apply Array.ext_getElem?
      intro j
      simp only [Array.getElem?_setIfInBounds, List.getElem?_toArray, tabRowI, List.getElem?_map, List.size_toArray, List.length_map, List.length_range]
      by_cases ej : b = j
      · subst ej
        rw [if_pos rfl, if_pos hb, List.getElem?_range hb]
        simp [setT]
      · rw [if_neg ej]
        by_cases hj : j < n
        · rw [List.getElem?_range hj]
          simp [setT, show ¬ j = b from fun e => ej e.symm]
        · rw [List.getElem?_eq_none (by simp; omega)]; rfl
    · rw [Below.heap_setCell _ _ _ _ (by show rb i ≠ rb a; exact fun hh => e (h.inj i a hi ha hh)), h.row i hi]
      simp [tabRowI, setT, e]
theorem IntsW.keep {W W' : World} {g n : Nat} {rb : Nat → Nat} {T : Nat → Nat → Int} (h : IntsW W g n rb T) (hk : ∀ k, (k = g ∨ ∃ i, i < n ∧ k = rb i) → W'.heap[k]? = W.heap[k]?) : IntsW W' g n rb T :=
  ⟨by rw [hk g (.inl rfl)]; exact h.top, fun i hi => by rw [hk _ (.inr ⟨i, hi, rfl⟩)]; exact h.row i hi, h.ne, h.inj⟩
theorem IntsW.below {W W' : World} {g n : Nat} {rb : Nat → Nat} {T : Nat → Nat → Int} (h : IntsW W g n rb T) (hb : Below W.heap.size W W') : IntsW W' g n rb T :=
  h.keep fun k hk => by
    rcases hk with rfl | ⟨i, hi, rfl⟩
    · exact hb.block _ (Array.getElem?_eq_some_iff.1 h.top).1
    · exact hb.block _ (Array.getElem?_eq_some_iff.1 (h.row i hi)).1
theorem blank_zero (n : Nat) (hn : 1 ≤ n ∧ n ≤ 100) (cl : Nat) (cap : Array Value) (w : World)
    (hent : ∀ args W, (callFunc cl args).run Try.prog W = .ok (.enter cl args) W)
    (hcall : ∀ r c W, r < n → c < n → Below w.heap.size w W → Calls Try.prog cl (#[.int .i64 r, .int .i64 c] ++ cap) W fun e W' => e = .returned (.int .i64 0) ∧ Below W.heap.size W W') :
    Calls Try.prog 134 #[.int .i64 n, .int .i64 n, .func (.func cl) #[] cap] w fun e w' =>
      ∃ g rb, e = .returned (.slice (some ⟨g, 0, none⟩) n n) ∧ IntsW w' g n rb (fun _ _ => 0) ∧ w.heap.size ≤ g ∧ (∀ i, i < n → w.heap.size ≤ rb i) ∧ Below w.heap.size w w' := by
  refine (blankD_any n n hn hn cl cap (fun _ => 0) w.heap.size w (Nat.le_refl _) (fun _ _ => True) trivial (fun _ _ _ _ _ _ => trivial) hent ?_).mono ?_
  · intro r c W hr hc _ hB
    refine (hcall r c W hr hc hB).mono ?_
    rintro e W' ⟨rfl, hb⟩
    exact ⟨rfl, trivial, hb.mono hB.size, spares_of hb⟩
  · rintro e w' ⟨rows, rfl, h1, h2, h3, _, h4, h5⟩
    have hl : rows.length = n := by
      have := congrArg List.length h1
      simpa using this
    have hsn : ∀ i, (hi : i < n) → (rows[i]'(by omega)).2 = (List.range n).map fun _ => (0 : Int) := fun i hi => by
      have h := congrArg (fun l => l[i]?) h1
      simp only [List.getElem?_map, List.getElem?_eq_getElem (show i < rows.length by omega), List.getElem?_range hi, Option.map_some] at h
      exact Option.some.inj h
    have hrb : ∀ i, (hi : i < n) → (rows.getD i (0, [])).1 = (rows[i]'(by omega)).1 := fun i hi => by
      rw [List.getD_eq_getElem?_getD, List.getElem?_eq_getElem (by omega)]; rfl
    refine ⟨w.heap.size, fun i => (rows.getD i (0, [])).1, rfl, ⟨?_, fun i hi => ?_, fun i hi => ?_, fun i j hi hj e => ?_⟩, Nat.le_refl _, fun i hi => ?_, h5⟩
    · rw [h2.1, hl, Nat.sub_self, List.replicate_zero, List.append_nil]
      congr 3
      apply List.ext_getElem?
      intro i
      by_cases hi : i < n
      · rw [List.getElem?_map, List.getElem?_map, List.getElem?_eq_getElem (by omega), List.getElem?_range hi]
        simp only [Option.map_some]
        rw [hrb i hi]
        unfold rowV
        rw [hsn i hi, List.length_map, List.length_range]
      · rw [List.getElem?_eq_none (by simp; omega), List.getElem?_eq_none (by simp; omega)]
    · show w'.heap[(rows.getD i (0, [])).1]? = _
      rw [hrb i hi]
      have h := h2.2 (rows[i]'(by omega)) (List.getElem_mem _)
      unfold IntRow at h
      rw [h, hsn i hi, List.map_map]; rfl
    · show (rows.getD i (0, [])).1 ≠ _
      rw [hrb i hi]
      have := h3 _ (List.getElem_mem (show i < rows.length by omega))
      omega
    · have e : (rows.getD i (0, [])).1 = (rows.getD j (0, [])).1 := e
      rw [hrb i hi, hrb j hj] at e
      have hp := List.pairwise_iff_getElem.1 h4
      by_cases hij : i = j
      · exact hij
      · exfalso
        rcases Nat.lt_or_gt_of_ne hij with h | h
        · have := hp i j (by simp; omega) (by simp; omega) h
          simp only [List.getElem_map] at this
          exact this e
        · have := hp j i (by simp; omega) (by simp; omega) h
          simp only [List.getElem_map] at this
          exact this e.symm
    · show _ ≤ (rows.getD i (0, [])).1
      rw [hrb i hi]
      exact Nat.le_of_lt (h3 _ (List.getElem_mem _))
end Go.Proofs.Ytbpppchkgjcahaa
