/- The program's cuts (the iterator handed back) and first. -/
import Derived.Test.YtdhnjecbdclmaaaKICuts
import Derived.Lib.SmallJoins
namespace Go.Proofs.Ytdhnjecbdclmaaa
open Go.RowKit Go.Shelf Go.Proofs.YtdhnjecbdclmaaaW.PrintWords Go.Proofs.YtdhnjecbdclmaaaW.PrintMore
attribute [local go_sem] Oper.semAt_some
set_option linter.unusedVariables false
def partCells (fb : Nat) (b : Box) : Array Value := #[.pointer (some ⟨fb, 0, none⟩), .int .i64 b.1, .int .i64 b.2.1, .int .i64 b.2.2.1, .int .i64 b.2.2.2]
theorem cuts_any (fb : Nat) (b : Box) (w : World) :
    Calls Try.prog 179 #[partV fb b] w fun e w' => e = .returned (.func (.func 204) #[] #[.pointer (some ⟨w.heap.size, 0, none⟩)]) ∧ w' = w.alloc (.cells (partCells fb b) 58) := by
  unfold partV partCells
  go_enter Try.func179, Try.ntmps179
  go_wp2
  go_ret
  exact ⟨rfl, rfl⟩
def piecesCells (fb r c ph pw : Nat) (x : Bool × Nat) : Array Value := #[.bool x.1,
  .pointer (some ⟨fb, 0, none⟩), .int .i64 (oneB r c ph pw x).1, .int .i64 (oneB r c ph pw x).2.1, .int .i64 (oneB r c ph pw x).2.2.1, .int .i64 (oneB r c ph pw x).2.2.2,
  .pointer (some ⟨fb, 0, none⟩), .int .i64 (twoB r c ph pw x).1, .int .i64 (twoB r c ph pw x).2.1, .int .i64 (twoB r c ph pw x).2.2.1, .int .i64 (twoB r c ph pw x).2.2.2]
def noPieces : Array Value := #[.bool false, .pointer none, .int .i64 0, .int .i64 0, .int .i64 0, .int .i64 0, .pointer none, .int .i64 0, .int .i64 0, .int .i64 0, .int .i64 0]
def firstV (fb r c ph pw : Nat) : Option (Bool × Nat) → Value
  | none => .agg noPieces
  | some x => piecesV fb r c ph pw x
theorem set11 (cs : Array Value) (hs : cs.size = 11) (v0 v1 v2 v3 v4 v5 v6 v7 v8 v9 v10 : Value) : (((((((((((cs.setIfInBounds 0 v0).setIfInBounds 1 v1).setIfInBounds 2 v2).setIfInBounds 3 v3).setIfInBounds 4 v4).setIfInBounds 5 v5).setIfInBounds 6 v6).setIfInBounds 7 v7).setIfInBounds 8 v8).setIfInBounds 9 v9).setIfInBounds 10 v10) = #[v0, v1, v2, v3, v4, v5, v6, v7, v8, v9, v10] := by
  obtain ⟨l⟩ := cs
  match l, hs with
  | [a0, a1, a2, a3, a4, a5, a6, a7, a8, a9, a10], _ => simp
theorem put11 {W : World} {b : Nat} {t : TypeId} {cs : Array Value} (h : W.heap[b]? = some (.cells cs t (0, 0))) (hs : cs.size = 11) (v0 v1 v2 v3 v4 v5 v6 v7 v8 v9 v10 : Value) :
    (((((((((((W.setCell ⟨b, 0, none⟩ v0).setCell ⟨b, 1, none⟩ v1).setCell ⟨b, 2, none⟩ v2).setCell ⟨b, 3, none⟩ v3).setCell ⟨b, 4, none⟩ v4).setCell ⟨b, 5, none⟩ v5).setCell ⟨b, 6, none⟩ v6).setCell ⟨b, 7, none⟩ v7).setCell ⟨b, 8, none⟩ v8).setCell ⟨b, 9, none⟩ v9).setCell ⟨b, 10, none⟩ v10).heap[b]? = some (.cells #[v0, v1, v2, v3, v4, v5, v6, v7, v8, v9, v10] t (0, 0)) := by
  have := (Go.Joins.block_setCell (i := 10) (Go.Joins.block_setCell (i := 9) (Go.Joins.block_setCell (i := 8) (Go.Joins.block_setCell (i := 7) (Go.Joins.block_setCell (i := 6) (Go.Joins.block_setCell (i := 5) (Go.Joins.block_setCell (i := 4) (Go.Joins.block_setCell (i := 3) (Go.Joins.block_setCell (i := 2) (Go.Joins.block_setCell (i := 1) (Go.Joins.block_setCell (i := 0) h v0) v1) v2) v3) v4) v5) v6) v7) v8) v9) v10)
  rwa [set11 cs hs] at this
set_option maxRecDepth 100000 in
set_option maxHeartbeats 8000000 in
theorem first_any (fb h wd : Nat) (cl : Nat → Nat → Int) (boxes : List Box) (w : World) (hf : FloorR w fb h wd cl boxes) (hh : h ≤ 1000) (hwd : wd ≤ 1000) (r c ph pw : Nat) (hr : r + ph ≤ h) (hc : c + pw ≤ wd) (o : Option (Bool × Nat)) (ho : (cutsL cl r c ph pw).head? = o) :
    Calls Try.prog 165 #[partV fb (natB r c ph pw)] w fun e w' => e = .returned (.tuple #[firstV fb r c ph pw o, .bool o.isSome]) ∧ Below w.heap.size w w' := by
  have HF := Aside0.mk hf
  have HO := Aside0.mk ho
  clear hf ho
  refine calls_of_wp_marks Try.func165 rfl ?_
  simp only [Try.ntmps165, partV, natB, List.size_toArray, List.length_cons, List.length_nil, Nat.reduceAdd, Nat.reduceSub, Array.replicate_succ, Array.replicate_zero, List.push_toArray, List.append_toArray, List.nil_append, List.cons_append]
  go_wp2_with fail
  obtain ⟨W0, hW0⟩ : ∃ W0, ((w.alloc (.cells #[.pointer (some ⟨fb, 0, none⟩), .int .i64 r, .int .i64 c, .int .i64 ph, .int .i64 pw] 58)).alloc (.cells noPieces 109)).alloc (.cells #[.bool false] 4) = W0 := ⟨_, rfl⟩
  have hB1 : Below w.heap.size w W0 := by rw [← hW0]; exact (((Below.refl _ w).alloc (Nat.le_refl _) _).alloc (by simp) _).alloc (by simp; omega) _
  have hZ1 : W0.heap.size = w.heap.size + 3 := by rw [← hW0]; simp
  have hP1 : W0.heap[w.heap.size + 1]? = some (.cells noPieces 109 (0, 0)) := by
    rw [← hW0, Below.heap_alloc _ _ _ (by simp)]
    have := heap_alloc_new (w.alloc (.cells #[.pointer (some ⟨fb, 0, none⟩), .int .i64 r, .int .i64 c, .int .i64 ph, .int .i64 pw] 58)) (.cells noPieces 109)
    rwa [World.size_alloc] at this
  have hT1 : Boxed W0 (w.heap.size + 2) 4 (.bool false) := by
    rw [← hW0]
    have := Boxed.new ((w.alloc (.cells #[.pointer (some ⟨fb, 0, none⟩), .int .i64 r, .int .i64 c, .int .i64 ph, .int .i64 pw] 58)).alloc (.cells noPieces 109)) 4 (.bool false)
    rwa [World.size_alloc, World.size_alloc] at this
  unfold noPieces at hW0
  rw [hW0]
  have HB1 := Aside0.mk hB1
  have HZ1 := Aside0.mk hZ1
  have HP1 := Aside0.mk hP1
  have HT1 := Aside0.mk hT1
  clear hW0 hB1 hZ1 hP1 hT1
  refine (cuts_any fb (natB r c ph pw) _).mono ?_
  rintro e w' ⟨rfl, rfl⟩
  simp only [partCells, natB]
  go_wp2_with fail
  have hB2 : Below w.heap.size w (W0.alloc (.cells #[.pointer (some ⟨fb, 0, none⟩), .int .i64 r, .int .i64 c, .int .i64 ph, .int .i64 pw] 58)) := HB1.out.alloc (by have := HZ1.out; omega) _
  refine wp_range_ro (gf := 204) (lb := #[.pointer (some ⟨W0.heap.size, 0, none⟩)]) rfl (enters_of Try.func204 (by kernel_rfl) rfl)
    (cuts1_iter fb h wd cl boxes r c ph pw W0.heap.size w.heap.size (fun k => k = w.heap.size + 1 ∨ k = w.heap.size + 2) (fun k e => by omega) (by have := HZ1.out; omega) w _ rfl hB2 HF.out hh hwd hr hc (heap_alloc_new W0 _)) (Below.refl _ _) (fun _ => rfl)
    (fun pre W => pre = [] ∧ W.heap[w.heap.size + 1]? = some (.cells noPieces 109 (0, 0)) ∧ Boxed W (w.heap.size + 2) 4 (.bool false))
    (fun pre W => ∃ x, pre = [x] ∧ W.heap[w.heap.size + 1]? = some (.cells (piecesCells fb r c ph pw x) 109 (0, 0)) ∧ Boxed W (w.heap.size + 2) 4 (.bool true))
    (fun s X Y h hc => ⟨h.1, hc.same _ _ h.2.1 rfl, hc.boxed h.2.2⟩) (fun s X Y h hc => by obtain ⟨a, h1, h2, h3⟩ := h; exact ⟨a, h1, hc.same _ _ h2 rfl, hc.boxed h3⟩)
    ⟨rfl, (Below.heap_alloc _ _ _ (by have := HZ1.out; omega)).trans HP1.out, HT1.out.alloc _⟩ ?round ?done ?stop
  case round =>
    rintro l pre x W hpre ⟨rfl, hps, hbt⟩ hbW
    have hlt : w.heap.size + 4 ≤ W.heap.size := by have h1 := hbW.size; have h2 := HZ1.out; rw [World.size_alloc] at h1; omega
    have HPS := Aside0.mk hps
    have HBT := Aside0.mk hbt
    have HBW := Aside0.mk hbW
    have HLT := Aside0.mk hlt
    have HPR := Aside0.mk hpre
    clear hps hbt hbW hlt hpre
    simp only [piecesV]
    gi_wp2
    refine ⟨(Rd.refl _ _ _).alloc (by have := HLT.out; have := HZ1.out; simp; omega) _, fun W2 hc hb2 => ?_⟩
    have hps2 := hc.same _ _ ((Below.heap_alloc W _ _ (by have := HLT.out; omega)).trans HPS.out) rfl
    have hbt2 := hc.boxed (HBT.out.alloc _)
    have hnb := hc.same W.heap.size _ (World.alloc_heap_new W _) rfl
    have n0 := blk_cell hnb 0
    have n1 := blk_cell hnb 1
    have n2 := blk_cell hnb 2
    have n3 := blk_cell hnb 3
    have n4 := blk_cell hnb 4
    have n5 := blk_cell hnb 5
    have n6 := blk_cell hnb 6
    have n7 := blk_cell hnb 7
    have n8 := blk_cell hnb 8
    have n9 := blk_cell hnb 9
    have n10 := blk_cell hnb 10
    simp at n0 n1 n2 n3 n4 n5 n6 n7 n8 n9 n10
    have q1 := hbt2.cell
    have q2 := hbt2.frozen
    have p0 := blk_cell hps2 0
    have p1 := blk_cell hps2 1
    have p2 := blk_cell hps2 2
    have p3 := blk_cell hps2 3
    have p4 := blk_cell hps2 4
    have p5 := blk_cell hps2 5
    have p6 := blk_cell hps2 6
    have p7 := blk_cell hps2 7
    have p8 := blk_cell hps2 8
    have p9 := blk_cell hps2 9
    have p10 := blk_cell hps2 10
    simp [noPieces] at p0 p1 p2 p3 p4 p5 p6 p7 p8 p9 p10
    have f0 := blk_frozen hps2 0
    have f1 := blk_frozen hps2 1
    have f2 := blk_frozen hps2 2
    have f3 := blk_frozen hps2 3
    have f4 := blk_frozen hps2 4
    have f5 := blk_frozen hps2 5
    have f6 := blk_frozen hps2 6
    have f7 := blk_frozen hps2 7
    have f8 := blk_frozen hps2 8
    have f9 := blk_frozen hps2 9
    have f10 := blk_frozen hps2 10
    have HPS2 := Aside0.mk hps2
    have HBT2 := Aside0.mk hbt2
    clear hps2 hbt2 hnb
    gi_wp2
    refine ⟨?_, x, rfl, ?_, ?_⟩
    · refine Rd.setCell ?_ (.inr (.inr rfl)) _
      iterate 11 refine Rd.setCell ?_ (.inr (.inl rfl)) _
      exact Rd.refl _ _ _
    · rw [heap_setCell_other _ _ _ _ (by simp)]
      exact put11 HPS2.out rfl _ _ _ _ _ _ _ _ _ _ _
    · refine Boxed.set (v := .bool false) _ ?_
      show (World.heap _)[_]? = _
      iterate 11 rw [heap_setCell_other _ _ _ _ (by simp)]
      exact HBT2.out
  case done =>
    rintro D W hD hk ⟨he, hps, hbt⟩ hK
    have q1 := hbt.cell
    have q2 := hbt.frozen
    have p0 := blk_cell hps 0
    have p1 := blk_cell hps 1
    have p2 := blk_cell hps 2
    have p3 := blk_cell hps 3
    have p4 := blk_cell hps 4
    have p5 := blk_cell hps 5
    have p6 := blk_cell hps 6
    have p7 := blk_cell hps 7
    have p8 := blk_cell hps 8
    have p9 := blk_cell hps 9
    have p10 := blk_cell hps 10
    simp [noPieces] at p0 p1 p2 p3 p4 p5 p6 p7 p8 p9 p10
    have f0 := blk_frozen hps 0
    have f1 := blk_frozen hps 1
    have f2 := blk_frozen hps 2
    have f3 := blk_frozen hps 3
    have f4 := blk_frozen hps 4
    have f5 := blk_frozen hps 5
    have f6 := blk_frozen hps 6
    have f7 := blk_frozen hps 7
    have f8 := blk_frozen hps 8
    have f9 := blk_frozen hps 9
    have f10 := blk_frozen hps 10
    have hB3 := hB2.trans (hk.below (m := w.heap.size) (fun k e => by omega) (by have := HZ1.out; simp; omega))
    have HB := Aside0.mk hB3
    have HX := Aside0.mk hps
    have HY := Aside0.mk hbt
    have HK := Aside0.mk hK
    have HD := Aside0.mk hD
    have HE := Aside0.mk he
    clear hB3 hps hbt hK hk hD he
    go_wp2
    refine ret_mark ((((((((((((((KeepsOthers.setCell _ _ _).trans (KeepsOthers.setCell _ _ _)).trans (KeepsOthers.setCell _ _ _)).trans (KeepsOthers.setCell _ _ _)).trans (KeepsOthers.setCell _ _ _)).trans (KeepsOthers.setCell _ _ _)).trans (KeepsOthers.setCell _ _ _)).trans (KeepsOthers.setCell _ _ _)).trans (KeepsOthers.setCell _ _ _)).trans (KeepsOthers.setCell _ _ _)).trans (KeepsOthers.setCell _ _ _)).trans (KeepsOthers.setCell _ _ _))).same _ _ HK.out rfl) ?_
    intro W' hc hb
    have hp9 := put11 HX.out rfl (.bool false) (.pointer none) (.int .i64 0) (.int .i64 0) (.int .i64 0) (.int .i64 0) (.pointer none) (.int .i64 0) (.int .i64 0) (.int .i64 0) (.int .i64 0)
    have hps' := hc.same (w.heap.size + 1) (.cells noPieces 109 (0, 0)) (by rw [heap_setCell_other _ _ _ _ (by simp)]; exact hp9) rfl
    have hbt' := hc.boxed (b := w.heap.size + 2) (t := 4) (v := .bool false) (by
      refine Boxed.set (v := .bool false) _ ?_
      show (World.heap _)[_]? = _
      iterate 11 rw [heap_setCell_other _ _ _ _ (by simp)]
      exact HY.out)
    have q1 := hbt'.cell
    have p0 := blk_cell hps' 0
    have p1 := blk_cell hps' 1
    have p2 := blk_cell hps' 2
    have p3 := blk_cell hps' 3
    have p4 := blk_cell hps' 4
    have p5 := blk_cell hps' 5
    have p6 := blk_cell hps' 6
    have p7 := blk_cell hps' 7
    have p8 := blk_cell hps' 8
    have p9 := blk_cell hps' 9
    have p10 := blk_cell hps' 10
    simp [noPieces] at p0 p1 p2 p3 p4 p5 p6 p7 p8 p9 p10
    have ho : o = none := by rw [← HO.out, HE.out]; rfl
    subst ho
    refine ⟨.tuple #[.agg noPieces, .bool false], by simp [results, Try.f165, go_sem, noPieces, q1, p0, p1, p2, p3, p4, p5, p6, p7, p8, p9, p10], rfl, ?_⟩
    refine Below.trans ?_ (hb _ (by have h1 := HD.out; have h2 := HZ1.out; simp at h1; omega))
    refine Below.setCell ?_ (by show w.heap.size ≤ _; dsimp only; omega) _
    iterate 11 refine Below.setCell ?_ (by show w.heap.size ≤ _; dsimp only; omega) _
    exact HB.out
  case stop =>
    rintro D pre W hD hk hpre ⟨x, rfl, hps, hbt⟩ hK
    have hB3 := hB2.trans (hk.below (m := w.heap.size) (fun k e => by omega) (by have := HZ1.out; simp; omega))
    have hx : o = some x := by
      rw [← HO.out]
      obtain ⟨t, ht⟩ := hpre
      rw [← ht]; rfl
    subst hx
    show bodyPostM _ _ _ _ _ .ret _ _
    refine ret_mark hK ?_
    intro W' hc hb
    have q1 := (hc.boxed hbt).cell
    have hps' := hc.same _ _ hps rfl
    have p0 := blk_cell hps' 0
    have p1 := blk_cell hps' 1
    have p2 := blk_cell hps' 2
    have p3 := blk_cell hps' 3
    have p4 := blk_cell hps' 4
    have p5 := blk_cell hps' 5
    have p6 := blk_cell hps' 6
    have p7 := blk_cell hps' 7
    have p8 := blk_cell hps' 8
    have p9 := blk_cell hps' 9
    have p10 := blk_cell hps' 10
    simp [piecesCells] at p0 p1 p2 p3 p4 p5 p6 p7 p8 p9 p10
    refine ⟨.tuple #[piecesV fb r c ph pw x, .bool true], by simp [results, Try.f165, go_sem, piecesV, q1, p0, p1, p2, p3, p4, p5, p6, p7, p8, p9, p10], rfl, ?_⟩
    exact hB3.trans (hb _ (by have h2 := HZ1.out; simp at hD; omega))
end Go.Proofs.Ytdhnjecbdclmaaa
