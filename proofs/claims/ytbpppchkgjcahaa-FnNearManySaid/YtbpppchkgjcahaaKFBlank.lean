/- The program's blank: a grid of numbers told by a function value. Conditions: at most 100 rows and columns. -/
import Derived.Test.YtbpppchkgjcahaaKFIoM
import Derived.Lib.Builder
namespace Go.Proofs.Ytbpppchkgjcahaa
open Go.RowKit Go.Shelf Go.Proofs.YtbpppchkgjcahaaW.PrintWords Go.Proofs.YtbpppchkgjcahaaW.PrintMore
set_option linter.unusedVariables false
def IntRow (W : World) (g : Nat) (xs : List Int) : Prop := W.heap[g]? = some (Obj.cells (xs.map (Value.int .i64)).toArray 3 (0, 0))
def rowV (x : Nat × List Int) : Value := Value.slice (some ⟨x.1, 0, none⟩) x.2.length x.2.length
def GridAt (W : World) (g n : Nat) (rows : List (Nat × List Int)) : Prop :=
  W.heap[g]? = some (Obj.cells (rows.map rowV ++ List.replicate (n - rows.length) (Value.slice none 0 0)).toArray 34 (0, 0)) ∧ ∀ x ∈ rows, IntRow W x.1 x.2
def Spares (hb : Nat) (W W' : World) : Prop := ∀ (j : Nat) (cs : Array Value) (t : Nat), hb ≤ j → W.heap[j]? = some (Obj.cells cs t (0, 0)) → (t = 3 ∨ t = 34) → W'.heap[j]? = some (Obj.cells cs t (0, 0))
theorem GridAt.spared {hb : Nat} {W W' : World} {g n : Nat} {rows : List (Nat × List Int)} (h : GridAt W g n rows) (hs : Spares hb W W') (hg : hb ≤ g) (hr : ∀ x ∈ rows, hb ≤ x.1) : GridAt W' g n rows :=
  ⟨hs g _ _ hg h.1 (.inr rfl), fun x hx => hs x.1 _ _ (hr x hx) (h.2 x hx) (.inl rfl)⟩
def Leaves (hb : Nat) (W W' : World) : Prop := W.heap.size ≤ W'.heap.size ∧ ∀ j, j < W.heap.size → (j < hb ∨ ∀ (cs : Array Value) (t : Nat), W.heap[j]? = some (Obj.cells cs t (0, 0)) → t ≠ 3 ∧ t ≠ 34) → W'.heap[j]? = W.heap[j]?
theorem Leaves.refl (hb : Nat) (W : World) : Leaves hb W W := ⟨Nat.le_refl _, fun _ _ _ => rfl⟩
theorem Leaves.alloc {hb : Nat} {W0 W : World} (h : Leaves hb W0 W) (o : Obj) : Leaves hb W0 (W.alloc o) :=
  ⟨Nat.le_trans h.1 (by simp), fun j hj hc => by rw [Below.heap_alloc _ _ _ (Nat.lt_of_lt_of_le hj h.1), h.2 j hj hc]⟩
theorem Leaves.setCell {hb : Nat} {W0 W : World} (h : Leaves hb W0 W) {g o : Nat} (u : Value) (hg : ∀ j, j < W0.heap.size → (j < hb ∨ ∀ (cs : Array Value) (t : Nat), W0.heap[j]? = some (Obj.cells cs t (0, 0)) → t ≠ 3 ∧ t ≠ 34) → j ≠ g) : Leaves hb W0 (W.setCell ⟨g, o, none⟩ u) :=
  ⟨by simpa using h.1, fun j hj hc => by rw [Below.heap_setCell _ _ _ _ (hg j hj hc), h.2 j hj hc]⟩
theorem made_rep (z : Value) (n : Nat) : madeCells #[z] n = (List.replicate n z).toArray := by
  apply Array.ext
  · simp [madeCells]
  · intro i h1 h2
    simp [madeCells, Nat.mod_one]
theorem GridAt.cell {W : World} {g n : Nat} {rows : List (Nat × List Int)} (h : GridAt W g n rows) (r : Nat) (v : Value) (hv : (rows.map rowV ++ List.replicate (n - rows.length) (Value.slice none 0 0))[r]? = some v) : W.cell? ⟨g, r, none⟩ = some v := by
  rw [Lib.cell_of_heap h.1]
  simpa using hv
theorem IntRow.cell {W : World} {g : Nat} {xs : List Int} (h : IntRow W g xs) (c : Nat) (hc : c < xs.length) : W.cell? ⟨g, c, none⟩ = some (.int .i64 xs[c]) := by
  rw [Lib.cell_of_heap h]
  simp [hc]
theorem GridAt.open_ {W : World} {g n wd : Nat} {rows : List (Nat × List Int)} (h : GridAt W g n rows) (hn : rows.length < n) :
    GridAt ((W.alloc (.cells (madeCells #[.int .i64 0] wd) 3)).setCell ⟨g, rows.length, none⟩ (.slice (some ⟨W.heap.size, 0, none⟩) wd wd)) g n (rows ++ [(W.heap.size, List.replicate wd 0)]) := by
  obtain ⟨h1, h2⟩ := h
  have hg : g < W.heap.size := (Array.getElem?_eq_some_iff.1 h1).1
  have ha : (W.alloc (.cells (madeCells #[.int .i64 0] wd) 3)).heap[g]? = some (Obj.cells (rows.map rowV ++ List.replicate (n - rows.length) (Value.slice none 0 0)).toArray 34 (0, 0)) := by
    rw [Below.heap_alloc _ _ _ hg]; exact h1
  refine ⟨?_, fun x hx => ?_⟩
  · rw [blk_set ha rows.length _]
    congr 2
    rw [List.setIfInBounds_toArray]
    congr 1
    rw [List.set_append_right _ _ (by simp), List.length_map, Nat.sub_self, show n - rows.length = (n - rows.length - 1) + 1 by omega, List.replicate_succ, List.set_cons_zero, List.map_append, List.append_assoc]
    congr 1
    rw [List.length_append, show n - (rows.length + [(W.heap.size, List.replicate wd (0 : Int))].length) = n - rows.length - 1 by simp; omega]
    simp [rowV]
  · rcases List.mem_append.1 hx with hx | hx
    · have hxr := h2 x hx
      have hlt : x.1 < W.heap.size := (Array.getElem?_eq_some_iff.1 hxr).1
      have hne : x.1 ≠ g := fun e => by
        unfold IntRow at hxr
        rw [e, h1] at hxr
        injection hxr with hxr
        injection hxr with _ hxr
        exact absurd hxr (by decide)
      unfold IntRow
      rw [Below.heap_setCell _ _ _ _ hne, Below.heap_alloc _ _ _ hlt]
      exact hxr
    · simp at hx
      subst hx
      unfold IntRow
      rw [Below.heap_setCell _ _ _ _ (by show W.heap.size ≠ g; omega), heap_alloc_new, made_rep]
      simp
theorem GridAt.put {W : World} {g n gr : Nat} {rows : List (Nat × List Int)} {xs : List Int} (h : GridAt W g n (rows ++ [(gr, xs)])) (hd : ∀ x ∈ rows, x.1 ≠ gr) (c : Nat) (v : Int) :
    GridAt (W.setCell ⟨gr, c, none⟩ (.int .i64 v)) g n (rows ++ [(gr, xs.set c v)]) := by
  obtain ⟨h1, h2⟩ := h
  have hgr := h2 (gr, xs) (by simp)
  have hne : g ≠ gr := fun e => by
    unfold IntRow at hgr
    dsimp only at hgr
    rw [← e, h1] at hgr
    injection hgr with hgr
    injection hgr with _ hgr
    exact absurd hgr (by decide)
  refine ⟨?_, fun x hx => ?_⟩
  · rw [Below.heap_setCell _ _ _ _ hne, h1]
    simp [rowV]
  · rcases List.mem_append.1 hx with hx | hx
    · unfold IntRow
      rw [Below.heap_setCell _ _ _ _ (hd x hx)]
      exact h2 x (List.mem_append_left _ hx)
    · simp at hx
      subst hx
      unfold IntRow at *
      rw [blk_set hgr c _]
      simp [List.map_set]
def part (wd : Nat) (val : Nat → Int) (r c : Nat) : List Int := ((List.range c).map fun k => val (r * wd + k)) ++ List.replicate (wd - c) 0
theorem part_zero (wd : Nat) (val : Nat → Int) (r : Nat) : part wd val r 0 = List.replicate wd 0 := by simp [part]
theorem part_full (wd : Nat) (val : Nat → Int) (r : Nat) : part wd val r wd = (List.range wd).map fun k => val (r * wd + k) := by simp [part]
theorem part_len (wd : Nat) (val : Nat → Int) (r c : Nat) (hc : c ≤ wd) : (part wd val r c).length = wd := by simp [part]; omega
theorem part_set (wd : Nat) (val : Nat → Int) (r c : Nat) (hc : c < wd) : (part wd val r c).set c (val (r * wd + c)) = part wd val r (c + 1) := by
  unfold part
  rw [List.set_append_right _ _ (by simp), List.range_succ, List.map_append, show wd - c = (wd - (c + 1)) + 1 by omega, List.replicate_succ]
  simp
set_option maxRecDepth 100000 in
set_option maxHeartbeats 8000000 in
theorem blank_any (hi wd : Nat) (hhi : 1 ≤ hi ∧ hi ≤ 100) (hwd : 1 ≤ wd ∧ wd ≤ 100) (cl : Nat) (cap : Array Value) (val : Nat → Int) (base : Nat) (w : World) (hbase : base ≤ w.heap.size) (I : Nat → World → Prop)
    (hI0 : I 0 w) (hIL : ∀ n W W', I n W → Below base w W → Leaves w.heap.size W W' → I n W')
    (hent : ∀ args W, (callFunc cl args).run Try.prog W = .ok (.enter cl args) W)
    (hcall : ∀ r c W, r < hi → c < wd → I (r * wd + c) W → Below base w W → Calls Try.prog cl (#[.int .i64 r, .int .i64 c] ++ cap) W fun e W' => e = .returned (.int .i64 (val (r * wd + c))) ∧ I (r * wd + c + 1) W' ∧ Below base W W' ∧ Spares w.heap.size W W') :
    Calls Try.prog 134 #[.int .i64 hi, .int .i64 wd, .func (.func cl) #[] cap] w fun e w' =>
      ∃ rows : List (Nat × List Int), e = .returned (.slice (some ⟨w.heap.size, 0, none⟩) hi hi) ∧ rows.map Prod.snd = (List.range hi).map (fun r => (List.range wd).map fun c => val (r * wd + c)) ∧ GridAt w' w.heap.size hi rows ∧ (∀ x ∈ rows, w.heap.size < x.1) ∧ I (hi * wd) w' ∧ Below base w w' := by
  have mk1 : ∀ W : World, (Instr.makeSlice 65 (.int .i64 (hi : Int)) (.int .i64 (hi : Int))).run Try.prog W = .ok (.slice (some ⟨W.heap.size, 0, none⟩) hi hi) (W.alloc (.cells (madeCells #[.slice none 0 0] hi) 34)) :=
    fun W => run_make_row' 65 34 (.slice none 0 0) 24 Try.underlying65 (by kernel_rfl) rfl .i64 .i64 hi (by omega) (by omega) W
  have mk2 : ∀ W : World, (Instr.makeSlice 34 (.int .i64 (wd : Int)) (.int .i64 (wd : Int))).run Try.prog W = .ok (.slice (some ⟨W.heap.size, 0, none⟩) wd wd) (W.alloc (.cells (madeCells #[.int .i64 0] wd) 3)) :=
    fun W => run_make_row' 34 3 (.int .i64 0) 8 Try.underlying34 (by kernel_rfl) rfl .i64 .i64 wd (by omega) (by omega) W
  have HI0 := Aside0.mk hI0
  have HIL := Aside0.mk hIL
  have HCALL := Aside0.mk hcall
  have HBASE := Aside0.mk hbase
  clear hI0 hIL hcall hbase
  go_enter Try.func134, Try.ntmps134
  go_wp2
  go_loopw [14] (fun i wr => ∃ (r : Nat) (rows : List (Nat × List Int)), i = .int .i64 r ∧ r ≤ hi ∧ Aside0 (rows.length = r ∧ rows.map Prod.snd = (List.range r).map (fun r => (List.range wd).map fun c => val (r * wd + c)) ∧ GridAt wr w.heap.size hi rows ∧ (∀ x ∈ rows, w.heap.size < x.1) ∧ I (r * wd) wr ∧ Below base w wr)) (fun i _ => hi - (intOf i).toNat)
  case atStart =>
    refine ⟨0, [], rfl, by omega, ⟨rfl, rfl, ⟨?_, by simp⟩, by simp, ?_, (Below.refl _ _).alloc HBASE.out _⟩⟩
    · rw [heap_alloc_new, made_rep]; rfl
    · rw [Nat.zero_mul]; exact HIL.out 0 w _ HI0.out (Below.refl _ _) ((Leaves.refl _ _).alloc _)
  case round =>
    obtain ⟨r, rows, rfl, hr, HR⟩ := hrel
    obtain ⟨wo, rfl⟩ : ∃ wo : World, wo = wr := ⟨_, rfl⟩
    by_cases hlt : (r : Int) < (hi : Int)
    · have hc0 : wo.cell? ⟨w.heap.size, r, none⟩ = some (.slice none 0 0) := HR.out.2.2.1.cell r _ (by
        rw [List.getElem?_append_right (by rw [List.length_map, HR.out.1]; exact Nat.le_refl _), List.length_map, HR.out.1, Nat.sub_self, List.getElem?_replicate, if_pos (by omega)])
      have hz0 : wo.frozen? ⟨w.heap.size, r, none⟩ = false := Lib.frozen_of_heap HR.out.2.2.1.1 r
      have hr0 : (0 : Int) ≤ (r : Int) := by omega
      have ha : (wo.alloc (.cells (madeCells #[.int .i64 0] wd) 3)).heap[w.heap.size]? = wo.heap[w.heap.size]? := Below.heap_alloc _ _ _ (Array.getElem?_eq_some_iff.1 HR.out.2.2.1.1).1
      have hc1 : (wo.alloc (.cells (madeCells #[.int .i64 0] wd) 3)).cell? ⟨w.heap.size, r, none⟩ = some (.slice none 0 0) := (World.cell?_of_block ha).trans hc0
      have hz1 : (wo.alloc (.cells (madeCells #[.int .i64 0] wd) 3)).frozen? ⟨w.heap.size, r, none⟩ = false := (World.frozen?_of_block ha).trans hz0
      clear ha
      have hgl : w.heap.size < wo.heap.size := (Array.getElem?_eq_some_iff.1 HR.out.2.2.1.1).1
      have HGL := Aside0.mk hgl
      clear hgl
      go_wp2
      have HO := Aside0.mk (HR.out.2.2.1.open_ (wd := wd) (by rw [HR.out.1]; omega))
      go_loopw [27] (fun i w2 => ∃ c : Nat, i = .int .i64 c ∧ c ≤ wd ∧ Aside0 (GridAt w2 w.heap.size hi (rows ++ [(wo.heap.size, part wd val r c)]) ∧ I (r * wd + c) w2 ∧ Below base w w2)) (fun i _ => wd - (intOf i).toNat)
      case atStart =>
        refine ⟨0, rfl, by omega, ⟨?_, ?_, ?_⟩⟩
        · rw [part_zero]
          have h := HO.out
          rw [HR.out.1] at h
          exact h
        · refine HIL.out _ wo _ HR.out.2.2.2.2.1 HR.out.2.2.2.2.2 (((Leaves.refl _ _).alloc _).setCell _ (fun j hj hc e => ?_))
          rcases hc with hc | hc
          · omega
          · rw [e] at hc
            exact absurd rfl (hc _ _ HR.out.2.2.1.1).2
        · exact (HR.out.2.2.2.2.2.alloc (Nat.le_trans HBASE.out (Nat.le_of_lt HGL.out)) _).setCell (p := ⟨w.heap.size, r, none⟩) HBASE.out _
      case round =>
        obtain ⟨c, rfl, hc, HC⟩ := hrel
        have HI1 : Aside0 (I (r * wd + c) wr.drew) := ⟨HIL.out _ wr _ HC.out.2.1 HC.out.2.2 ⟨Nat.le_refl _, fun _ _ _ => rfl⟩⟩
        have cg : wr.cell? ⟨w.heap.size, r, none⟩ = some (.slice (some ⟨wo.heap.size, 0, none⟩) wd wd) := HC.out.1.cell r _ (by
          rw [List.getElem?_append_left (by rw [List.length_map, List.length_append, HR.out.1]; exact Nat.lt_succ_self _), List.map_append, List.getElem?_append_right (by rw [List.length_map, HR.out.1]; exact Nat.le_refl _), List.length_map, HR.out.1, Nat.sub_self]
          simp [rowV, part_len wd val r c hc])
        have hc0 : (0 : Int) ≤ (c : Int) := by omega
        by_cases hcl : (c : Int) < (wd : Int)
        · have hne : w.heap.size ≠ wo.heap.size := Nat.ne_of_lt HGL.out
          go_wp2
          go_region_held3 (fun w' => w'.cell? ⟨w.heap.size, r, none⟩ = some (.slice (some ⟨wo.heap.size, 0, none⟩) wd wd)) (first
            | exact cg
            | exact cgx
            | (go_simp)) ((refine Calls.mono (HCALL.out r c _ (by omega) (by omega) HI1.out HC.out.2.2.drew) ?_; rintro e w3 ⟨rfl, hI3, hB3, hS3⟩; have HI3 := Aside0.mk hI3; have HB3 := Aside0.mk hB3; have HG3 : Aside0 (GridAt w3 w.heap.size hi (rows ++ [(wo.heap.size, part wd val r c)])) := ⟨HC.out.1.spared (W := wr.drew) hS3 (Nat.le_refl _) (fun x hx => (List.mem_append.1 hx).elim (fun hx => Nat.le_of_lt (HR.out.2.2.2.1 x hx)) (fun hx => by simp at hx; rw [hx]; exact Nat.le_of_lt HGL.out))⟩; have cgx : w3.cell? ⟨w.heap.size, r, none⟩ = some (.slice (some ⟨wo.heap.size, 0, none⟩) wd wd) := (World.cell?_of_block (HG3.out.1.trans HC.out.1.1.symm)).trans cg; have cxx : w3.cell? ⟨wo.heap.size, c, none⟩ = some (.int .i64 ((part wd val r c)[c]'(by rw [part_len wd val r c hc]; omega))) := IntRow.cell (HG3.out.2 (wo.heap.size, part wd val r c) (List.mem_append_right _ (List.mem_singleton.2 rfl))) c (by rw [part_len wd val r c hc]; omega); have zxx : w3.frozen? ⟨wo.heap.size, c, none⟩ = false := Lib.frozen_of_heap (HG3.out.2 _ (List.mem_append_right _ (List.mem_singleton.2 rfl))) c; clear hI3 hB3 hS3))
          go_wp2
          go_roundw
          case rel =>
            refine ⟨c + 1, by go_num, by omega, ⟨?_, ?_, ?_⟩⟩
            · rw [← part_set wd val r c (by omega)]
              exact HG3.out.put (fun x hx e => by have := HR.out.2.2.1; have hr2 := this.2 x hx; have := (Array.getElem?_eq_some_iff.1 hr2).1; omega) c _
            · refine HIL.out _ w3 _ HI3.out (HC.out.2.2.drew.trans HB3.out) ((Leaves.refl _ _).setCell _ (fun j hj hcx e => ?_))
              have hgr := HG3.out.2 (wo.heap.size, part wd val r c) (by simp)
              rcases hcx with hcx | hcx
              · have := HGL.out; omega
              · rw [e] at hcx
                exact absurd rfl (hcx _ _ hgr).1
            · exact (HC.out.2.2.drew.trans HB3.out).setCell (p := ⟨wo.heap.size, c, none⟩) (Nat.le_trans HBASE.out (Nat.le_of_lt HGL.out)) _
          case measure => simp [intOf]; omega
        · have hcw : c = wd := by omega
          subst hcw
          go_wp2
          go_roundw
          case rel =>
            refine ⟨r + 1, rows ++ [(wo.heap.size, part c val r c)], by go_num, by omega, ⟨by rw [List.length_append, HR.out.1]; rfl, ?_, HC.out.1, ?_, ?_, HC.out.2.2⟩⟩
            · rw [List.map_append, HR.out.2.1, List.range_succ, List.map_append, part_full]; rfl
            · intro x hx
              rcases List.mem_append.1 hx with hx | hx
              · exact HR.out.2.2.2.1 x hx
              · simp at hx; rw [hx]; exact HGL.out
            · rw [Nat.succ_mul]; exact HC.out.2.1
          case measure => simp [intOf]; omega
    · have hrh : r = hi := by omega
      subst hrh
      go_wp2
      go_ret
      exact ⟨rfl, rows, HR.out.2.1, HR.out.2.2.1, (fun a b h => HR.out.2.2.2.1 (a, b) h), HR.out.2.2.2.2.1, HR.out.2.2.2.2.2⟩
end Go.Proofs.Ytbpppchkgjcahaa
