/- Texts of this claim's, joined by a program: AFirst, AText, ASpecCut. -/
import Derived.Test.YtbpppchkgjcahaaKACuts
import Derived.Lib.SmallJoins
import Derived.Test.YtbpppchkgjcahaaKAL3x1
section
namespace Go.Proofs.Ytbpppchkgjcahaa
open Go.RowKit Go.Shelf Go.Proofs.YtbpppchkgjcahaaW.PrintWords Go.Proofs.YtbpppchkgjcahaaW.PrintMore
attribute [local go_sem] Oper.semAt_some
set_option linter.unusedVariables false
def partCells (fb : Nat) (b : Box) : Array Value := #[.pointer (some ⟨fb, 0, none⟩), .int .i64 b.1, .int .i64 b.2.1, .int .i64 b.2.2.1, .int .i64 b.2.2.2]
theorem cuts_any (fb : Nat) (b : Box) (w : World) :
    Calls Try.prog 179 #[partV fb b] w fun e w' => e = .returned (.func (.func 212) #[] #[.pointer (some ⟨w.heap.size, 0, none⟩)]) ∧ w' = w.alloc (.cells (partCells fb b) 75) := by
  unfold partV partCells
  go_enter Try.func179, Try.ntmps179
  go_wp2
  go_ret
  exact ⟨rfl, rfl⟩
def piecesCells (fb r c ph pw : Nat) (x : Bool × Nat) : Array Value := #[.bool x.1,
  .pointer (some ⟨fb, 0, none⟩), .int .i64 (oneB r c ph pw x).1, .int .i64 (oneB r c ph pw x).2.1, .int .i64 (oneB r c ph pw x).2.2.1, .int .i64 (oneB r c ph pw x).2.2.2,
  .pointer (some ⟨fb, 0, none⟩), .int .i64 (twoB r c ph pw x).1, .int .i64 (twoB r c ph pw x).2.1, .int .i64 (twoB r c ph pw x).2.2.1, .int .i64 (twoB r c ph pw x).2.2.2]
def noPieces : Array Value := #[.bool false, .pointer none, .int .i64 0, .int .i64 0, .int .i64 0, .int .i64 0, .pointer none, .int .i64 0, .int .i64 0, .int .i64 0, .int .i64 0]
def firstV (fb r c ph pw : Nat) : Option (Bool × Nat) → Value
  | none => .agg noPieces
  | some x => piecesV fb r c ph pw x
theorem set11 (cs : Array Value) (hs : cs.size = 11) (v0 v1 v2 v3 v4 v5 v6 v7 v8 v9 v10 : Value) : (((((((((((cs.setIfInBounds 0 v0).setIfInBounds 1 v1).setIfInBounds 2 v2).setIfInBounds 3 v3).setIfInBounds 4 v4).setIfInBounds 5 v5).setIfInBounds 6 v6).setIfInBounds 7 v7).setIfInBounds 8 v8).setIfInBounds 9 v9).setIfInBounds 10 v10) = #[v0, v1, v2, v3, v4, v5, v6, v7, v8, v9, v10] := by
  obtain ⟨l⟩ := cs
  match l, hs with
  | [a0, a1, a2, a3, a4, a5, a6, a7, a8, a9, a10], _ => simp
theorem put11 {W : World} {b : Nat} {t : TypeId} {cs : Array Value} (h : W.heap[b]? = some (.cells cs t (0, 0))) (hs : cs.size = 11) (v0 v1 v2 v3 v4 v5 v6 v7 v8 v9 v10 : Value) :
    (((((((((((W.setCell ⟨b, 0, none⟩ v0).setCell ⟨b, 1, none⟩ v1).setCell ⟨b, 2, none⟩ v2).setCell ⟨b, 3, none⟩ v3).setCell ⟨b, 4, none⟩ v4).setCell ⟨b, 5, none⟩ v5).setCell ⟨b, 6, none⟩ v6).setCell ⟨b, 7, none⟩ v7).setCell ⟨b, 8, none⟩ v8).setCell ⟨b, 9, none⟩ v9).setCell ⟨b, 10, none⟩ v10).heap[b]? = some (.cells #[v0, v1, v2, v3, v4, v5, v6, v7, v8, v9, v10] t (0, 0)) := by
  have := (Go.Joins.block_setCell (i := 10) (Go.Joins.block_setCell (i := 9) (Go.Joins.block_setCell (i := 8) (Go.Joins.block_setCell (i := 7) (Go.Joins.block_setCell (i := 6) (Go.Joins.block_setCell (i := 5) (Go.Joins.block_setCell (i := 4) (Go.Joins.block_setCell (i := 3) (Go.Joins.block_setCell (i := 2) (Go.Joins.block_setCell (i := 1) (Go.Joins.block_setCell (i := 0) h v0) v1) v2) v3) v4) v5) v6) v7) v8) v9) v10)
  rwa [set11 cs hs] at this
set_option maxRecDepth 100000 in
set_option maxHeartbeats 8000000 in
theorem first_any (fb h wd : Nat) (cl : Nat → Nat → Int) (boxes : List Box) (w : World) (hf : FloorR w fb h wd cl boxes) (hh : h ≤ 1000) (hwd : wd ≤ 1000) (r c ph pw : Nat) (hr : r + ph ≤ h) (hc : c + pw ≤ wd) (o : Option (Bool × Nat)) (ho : (cutsL cl r c ph pw).head? = o) :
    Calls Try.prog 123 #[partV fb (natB r c ph pw)] w fun e w' => e = .returned (.tuple #[firstV fb r c ph pw o, .bool o.isSome]) ∧ Below w.heap.size w w' := by
  have HF := Aside0.mk hf
  have HO := Aside0.mk ho
  clear hf ho
  refine calls_of_wp_marks Try.func123 rfl ?_
  simp only [Try.ntmps123, partV, natB, List.size_toArray, List.length_cons, List.length_nil, Nat.reduceAdd, Nat.reduceSub, Array.replicate_succ, Array.replicate_zero, List.push_toArray, List.append_toArray, List.nil_append, List.cons_append]
  go_wp2_with fail
  obtain ⟨W0, hW0⟩ : ∃ W0, ((w.alloc (.cells #[.pointer (some ⟨fb, 0, none⟩), .int .i64 r, .int .i64 c, .int .i64 ph, .int .i64 pw] 75)).alloc (.cells noPieces 82)).alloc (.cells #[.bool false] 4) = W0 := ⟨_, rfl⟩
  have hB1 : Below w.heap.size w W0 := by rw [← hW0]; exact (((Below.refl _ w).alloc (Nat.le_refl _) _).alloc (by simp) _).alloc (by simp; omega) _
  have hZ1 : W0.heap.size = w.heap.size + 3 := by rw [← hW0]; simp
  have hP1 : W0.heap[w.heap.size + 1]? = some (.cells noPieces 82 (0, 0)) := by
    rw [← hW0, Below.heap_alloc _ _ _ (by simp)]
    have := heap_alloc_new (w.alloc (.cells #[.pointer (some ⟨fb, 0, none⟩), .int .i64 r, .int .i64 c, .int .i64 ph, .int .i64 pw] 75)) (.cells noPieces 82)
    rwa [World.size_alloc] at this
  have hT1 : Boxed W0 (w.heap.size + 2) 4 (.bool false) := by
    rw [← hW0]
    have := Boxed.new ((w.alloc (.cells #[.pointer (some ⟨fb, 0, none⟩), .int .i64 r, .int .i64 c, .int .i64 ph, .int .i64 pw] 75)).alloc (.cells noPieces 82)) 4 (.bool false)
    rwa [World.size_alloc, World.size_alloc] at this
  unfold noPieces at hW0
  rw [hW0]
  have HB1 := Aside0.mk hB1
  have HZ1 := Aside0.mk hZ1
  have HP1 := Aside0.mk hP1
  have HT1 := Aside0.mk hT1
  clear hW0 hB1 hZ1 hP1 hT1
  refine (cuts_any fb (natB r c ph pw) _).mono ?_
  rintro e w' ⟨rfl, rfl⟩
  simp only [partCells, natB]
  go_wp2_with fail
  have hB2 : Below w.heap.size w (W0.alloc (.cells #[.pointer (some ⟨fb, 0, none⟩), .int .i64 r, .int .i64 c, .int .i64 ph, .int .i64 pw] 75)) := HB1.out.alloc (by have := HZ1.out; omega) _
  refine wp_range_ro (gf := 212) (lb := #[.pointer (some ⟨W0.heap.size, 0, none⟩)]) rfl (enters_of Try.func212 (by kernel_rfl) rfl)
    (cuts1_iter fb h wd cl boxes r c ph pw W0.heap.size w.heap.size (fun k => k = w.heap.size + 1 ∨ k = w.heap.size + 2) (fun k e => by omega) (by have := HZ1.out; omega) w _ rfl hB2 HF.out hh hwd hr hc (heap_alloc_new W0 _)) (Below.refl _ _) (fun _ => rfl)
    (fun pre W => pre = [] ∧ W.heap[w.heap.size + 1]? = some (.cells noPieces 82 (0, 0)) ∧ Boxed W (w.heap.size + 2) 4 (.bool false))
    (fun pre W => ∃ x, pre = [x] ∧ W.heap[w.heap.size + 1]? = some (.cells (piecesCells fb r c ph pw x) 82 (0, 0)) ∧ Boxed W (w.heap.size + 2) 4 (.bool true))
    (fun s X Y h hc => ⟨h.1, hc.same _ _ h.2.1 rfl, hc.boxed h.2.2⟩) (fun s X Y h hc => by obtain ⟨a, h1, h2, h3⟩ := h; exact ⟨a, h1, hc.same _ _ h2 rfl, hc.boxed h3⟩)
    ⟨rfl, (Below.heap_alloc _ _ _ (by have := HZ1.out; omega)).trans HP1.out, HT1.out.alloc _⟩ ?round ?done ?stop
  case round =>
    rintro l pre x W hpre ⟨rfl, hps, hbt⟩ hbW
    have hlt : w.heap.size + 4 ≤ W.heap.size := by have h1 := hbW.size; have h2 := HZ1.out; rw [World.size_alloc] at h1; omega
    have HPS := Aside0.mk hps
    have HBT := Aside0.mk hbt
    have HBW := Aside0.mk hbW
    have HLT := Aside0.mk hlt
    have HPR := Aside0.mk hpre
    clear hps hbt hbW hlt hpre
    simp only [piecesV]
    gi_wp2
    refine ⟨(Rd.refl _ _ _).alloc (by have := HLT.out; have := HZ1.out; simp; omega) _, fun W2 hc hb2 => ?_⟩
    have hps2 := hc.same _ _ ((Below.heap_alloc W _ _ (by have := HLT.out; omega)).trans HPS.out) rfl
    have hbt2 := hc.boxed (HBT.out.alloc _)
    have hnb := hc.same W.heap.size _ (World.alloc_heap_new W _) rfl
    have n0 := blk_cell hnb 0
    have n1 := blk_cell hnb 1
    have n2 := blk_cell hnb 2
    have n3 := blk_cell hnb 3
    have n4 := blk_cell hnb 4
    have n5 := blk_cell hnb 5
    have n6 := blk_cell hnb 6
    have n7 := blk_cell hnb 7
    have n8 := blk_cell hnb 8
    have n9 := blk_cell hnb 9
    have n10 := blk_cell hnb 10
    simp at n0 n1 n2 n3 n4 n5 n6 n7 n8 n9 n10
    have q1 := hbt2.cell
    have q2 := hbt2.frozen
    have p0 := blk_cell hps2 0
    have p1 := blk_cell hps2 1
    have p2 := blk_cell hps2 2
    have p3 := blk_cell hps2 3
    have p4 := blk_cell hps2 4
    have p5 := blk_cell hps2 5
    have p6 := blk_cell hps2 6
    have p7 := blk_cell hps2 7
    have p8 := blk_cell hps2 8
    have p9 := blk_cell hps2 9
    have p10 := blk_cell hps2 10
    simp [noPieces] at p0 p1 p2 p3 p4 p5 p6 p7 p8 p9 p10
    have f0 := blk_frozen hps2 0
    have f1 := blk_frozen hps2 1
    have f2 := blk_frozen hps2 2
    have f3 := blk_frozen hps2 3
    have f4 := blk_frozen hps2 4
    have f5 := blk_frozen hps2 5
    have f6 := blk_frozen hps2 6
    have f7 := blk_frozen hps2 7
    have f8 := blk_frozen hps2 8
    have f9 := blk_frozen hps2 9
    have f10 := blk_frozen hps2 10
    have HPS2 := Aside0.mk hps2
    have HBT2 := Aside0.mk hbt2
    clear hps2 hbt2 hnb
    gi_wp2
    refine ⟨?_, x, rfl, ?_, ?_⟩
    · refine Rd.setCell ?_ (.inr (.inr rfl)) _
      iterate 11 refine Rd.setCell ?_ (.inr (.inl rfl)) _
      exact Rd.refl _ _ _
    · rw [heap_setCell_other _ _ _ _ (by simp)]
      exact put11 HPS2.out rfl _ _ _ _ _ _ _ _ _ _ _
    · refine Boxed.set (v := .bool false) _ ?_
      show (World.heap _)[_]? = _
      iterate 11 rw [heap_setCell_other _ _ _ _ (by simp)]
      exact HBT2.out
  case done =>
    rintro D W hD hk ⟨he, hps, hbt⟩ hK
    have q1 := hbt.cell
    have q2 := hbt.frozen
    have p0 := blk_cell hps 0
    have p1 := blk_cell hps 1
    have p2 := blk_cell hps 2
    have p3 := blk_cell hps 3
    have p4 := blk_cell hps 4
    have p5 := blk_cell hps 5
    have p6 := blk_cell hps 6
    have p7 := blk_cell hps 7
    have p8 := blk_cell hps 8
    have p9 := blk_cell hps 9
    have p10 := blk_cell hps 10
    simp [noPieces] at p0 p1 p2 p3 p4 p5 p6 p7 p8 p9 p10
    have f0 := blk_frozen hps 0
    have f1 := blk_frozen hps 1
    have f2 := blk_frozen hps 2
    have f3 := blk_frozen hps 3
    have f4 := blk_frozen hps 4
    have f5 := blk_frozen hps 5
    have f6 := blk_frozen hps 6
    have f7 := blk_frozen hps 7
    have f8 := blk_frozen hps 8
    have f9 := blk_frozen hps 9
    have f10 := blk_frozen hps 10
    have hB3 := hB2.trans (hk.below (m := w.heap.size) (fun k e => by omega) (by have := HZ1.out; simp; omega))
    have HB := Aside0.mk hB3
    have HX := Aside0.mk hps
    have HY := Aside0.mk hbt
    have HK := Aside0.mk hK
    have HD := Aside0.mk hD
    have HE := Aside0.mk he
    clear hB3 hps hbt hK hk hD he
    go_wp2
    refine ret_mark ((((((((((((((KeepsOthers.setCell _ _ _).trans (KeepsOthers.setCell _ _ _)).trans (KeepsOthers.setCell _ _ _)).trans (KeepsOthers.setCell _ _ _)).trans (KeepsOthers.setCell _ _ _)).trans (KeepsOthers.setCell _ _ _)).trans (KeepsOthers.setCell _ _ _)).trans (KeepsOthers.setCell _ _ _)).trans (KeepsOthers.setCell _ _ _)).trans (KeepsOthers.setCell _ _ _)).trans (KeepsOthers.setCell _ _ _)).trans (KeepsOthers.setCell _ _ _))).same _ _ HK.out rfl) ?_
    intro W' hc hb
    have hp9 := put11 HX.out rfl (.bool false) (.pointer none) (.int .i64 0) (.int .i64 0) (.int .i64 0) (.int .i64 0) (.pointer none) (.int .i64 0) (.int .i64 0) (.int .i64 0) (.int .i64 0)
    have hps' := hc.same (w.heap.size + 1) (.cells noPieces 82 (0, 0)) (by rw [heap_setCell_other _ _ _ _ (by simp)]; exact hp9) rfl
    have hbt' := hc.boxed (b := w.heap.size + 2) (t := 4) (v := .bool false) (by
      refine Boxed.set (v := .bool false) _ ?_
      show (World.heap _)[_]? = _
      iterate 11 rw [heap_setCell_other _ _ _ _ (by simp)]
      exact HY.out)
    have q1 := hbt'.cell
    have p0 := blk_cell hps' 0
    have p1 := blk_cell hps' 1
    have p2 := blk_cell hps' 2
    have p3 := blk_cell hps' 3
    have p4 := blk_cell hps' 4
    have p5 := blk_cell hps' 5
    have p6 := blk_cell hps' 6
    have p7 := blk_cell hps' 7
    have p8 := blk_cell hps' 8
    have p9 := blk_cell hps' 9
    have p10 := blk_cell hps' 10
    simp [noPieces] at p0 p1 p2 p3 p4 p5 p6 p7 p8 p9 p10
    have ho : o = none := by rw [← HO.out, HE.out]; rfl
    subst ho
    refine ⟨.tuple #[.agg noPieces, .bool false], by simp [results, Try.f123, go_sem, noPieces, q1, p0, p1, p2, p3, p4, p5, p6, p7, p8, p9, p10], rfl, ?_⟩
    refine Below.trans ?_ (hb _ (by have h1 := HD.out; have h2 := HZ1.out; simp at h1; omega))
    refine Below.setCell ?_ (by show w.heap.size ≤ _; dsimp only; omega) _
    iterate 11 refine Below.setCell ?_ (by show w.heap.size ≤ _; dsimp only; omega) _
    exact HB.out
  case stop =>
    rintro D pre W hD hk hpre ⟨x, rfl, hps, hbt⟩ hK
    have hB3 := hB2.trans (hk.below (m := w.heap.size) (fun k e => by omega) (by have := HZ1.out; simp; omega))
    have hx : o = some x := by
      rw [← HO.out]
      obtain ⟨t, ht⟩ := hpre
      rw [← ht]; rfl
    subst hx
    show bodyPostM _ _ _ _ _ .ret _ _
    refine ret_mark hK ?_
    intro W' hc hb
    have q1 := (hc.boxed hbt).cell
    have hps' := hc.same _ _ hps rfl
    have p0 := blk_cell hps' 0
    have p1 := blk_cell hps' 1
    have p2 := blk_cell hps' 2
    have p3 := blk_cell hps' 3
    have p4 := blk_cell hps' 4
    have p5 := blk_cell hps' 5
    have p6 := blk_cell hps' 6
    have p7 := blk_cell hps' 7
    have p8 := blk_cell hps' 8
    have p9 := blk_cell hps' 9
    have p10 := blk_cell hps' 10
    simp [piecesCells] at p0 p1 p2 p3 p4 p5 p6 p7 p8 p9 p10
    refine ⟨.tuple #[piecesV fb r c ph pw x, .bool true], by simp [results, Try.f123, go_sem, piecesV, q1, p0, p1, p2, p3, p4, p5, p6, p7, p8, p9, p10], rfl, ?_⟩
    exact hB3.trans (hb _ (by have h2 := HZ1.out; simp at hD; omega))
end Go.Proofs.Ytbpppchkgjcahaa
end
section
namespace Go.Proofs.Ytbpppchkgjcahaa
open Go.RowKit Go.Shelf Go.Proofs.YtbpppchkgjcahaaW.PrintWords Go.Proofs.YtbpppchkgjcahaaW.PrintMore
set_option linter.unusedVariables false
abbrev Rc := Nat × Nat × Nat × Nat
def oneR (r c ph pw : Nat) (x : Bool × Nat) : Rc := if x.1 then (r, c, x.2 - r, pw) else (r, c, ph, x.2 - c)
def twoR (r c ph pw : Nat) (x : Bool × Nat) : Rc := if x.1 then (x.2, c, ph - (x.2 - r), pw) else (r, x.2, ph, pw - (x.2 - c))
def boxR (R : Rc) : Box := natB R.1 R.2.1 R.2.2.1 R.2.2.2
theorem oneB_R (r c ph pw : Nat) (x : Bool × Nat) : oneB r c ph pw x = boxR (oneR r c ph pw x) := by
  unfold oneB oneR boxR
  split <;> rfl
theorem twoB_R (r c ph pw : Nat) (x : Bool × Nat) : twoB r c ph pw x = boxR (twoR r c ph pw x) := by
  unfold twoB twoR boxR
  split <;> rfl
theorem linesL_in {cl : Nat → Nat → Int} {level : Bool} {lo from_ long k : Nat} {x : Bool × Nat} (h : x ∈ linesL cl level lo from_ long k) : x.1 = level ∧ lo + 1 ≤ x.2 ∧ x.2 < lo + 1 + k ∧ throughL cl level x.2 from_ long = true := by
  induction k with
  | zero => cases h
  | succ k ih =>
    unfold linesL at h
    rcases List.mem_append.1 h with h | h
    · obtain ⟨a, b, c, d⟩ := ih h
      exact ⟨a, b, by omega, d⟩
    · split at h
      · rename_i ht
        obtain rfl : x = (level, lo + 1 + k) := by simpa using h
        exact ⟨rfl, by simp only; omega, by simp only; omega, ht⟩
      · cases h
theorem cutsL_in {cl : Nat → Nat → Int} {r c ph pw : Nat} {x : Bool × Nat} (h : x ∈ cutsL cl r c ph pw) : if x.1 then r + 1 ≤ x.2 ∧ x.2 < r + ph ∧ throughL cl true x.2 c pw = true else c + 1 ≤ x.2 ∧ x.2 < c + pw ∧ throughL cl false x.2 r ph = true := by
  rcases List.mem_append.1 h with h | h
  · obtain ⟨a, b, d, e⟩ := linesL_in h
    rw [a]; simp only [Bool.false_eq_true, if_false]; exact ⟨b, by omega, e⟩
  · obtain ⟨a, b, d, e⟩ := linesL_in h
    rw [a]; simp only [if_true]; exact ⟨b, by omega, e⟩
structure Within (r c ph pw : Nat) (R : Rc) : Prop where
  row : r ≤ R.1 ∧ R.1 + R.2.2.1 ≤ r + ph
  col : c ≤ R.2.1 ∧ R.2.1 + R.2.2.2 ≤ c + pw
  some : 1 ≤ ph → 1 ≤ pw → 1 ≤ R.2.2.1 ∧ 1 ≤ R.2.2.2
  less : R.2.2.1 + R.2.2.2 < ph + pw
theorem one_in {cl : Nat → Nat → Int} {r c ph pw : Nat} {x : Bool × Nat} (h : x ∈ cutsL cl r c ph pw) : Within r c ph pw (oneR r c ph pw x) := by
  have := cutsL_in h
  unfold oneR
  split at this
  · rename_i e; rw [if_pos e]; exact ⟨⟨by simp only; omega, by simp only; omega⟩, ⟨by simp only; omega, by simp only; omega⟩, fun _ _ => ⟨by simp only; omega, by simp only; omega⟩, by simp only; omega⟩
  · rename_i e; rw [if_neg e]; exact ⟨⟨by simp only; omega, by simp only; omega⟩, ⟨by simp only; omega, by simp only; omega⟩, fun _ _ => ⟨by simp only; omega, by simp only; omega⟩, by simp only; omega⟩
theorem two_in {cl : Nat → Nat → Int} {r c ph pw : Nat} {x : Bool × Nat} (h : x ∈ cutsL cl r c ph pw) : Within r c ph pw (twoR r c ph pw x) := by
  have := cutsL_in h
  unfold twoR
  split at this
  · rename_i e; rw [if_pos e]; exact ⟨⟨by simp only; omega, by simp only; omega⟩, ⟨by simp only; omega, by simp only; omega⟩, fun _ _ => ⟨by simp only; omega, by simp only; omega⟩, by simp only; omega⟩
  · rename_i e; rw [if_neg e]; exact ⟨⟨by simp only; omega, by simp only; omega⟩, ⟨by simp only; omega, by simp only; omega⟩, fun _ _ => ⟨by simp only; omega, by simp only; omega⟩, by simp only; omega⟩
theorem head_in {cl : Nat → Nat → Int} {r c ph pw : Nat} {x : Bool × Nat} (h : (cutsL cl r c ph pw).head? = some x) : x ∈ cutsL cl r c ph pw := List.mem_of_mem_head? (by rw [h]; rfl)
def letterL (x : Bool × Nat) : UInt8 := if x.1 then 104 else 118
def capL (l : List Int) : UInt8 := UInt8.ofNat (65 + (l.headD 0).toNat)
def textL (cl : Nat → Nat → Int) (boxes : List Box) : Nat → Rc → Option (List UInt8)
  | 0, _ => none
  | n + 1, (r, c, ph, pw) =>
    if (listL boxes (natB r c ph pw) boxes.length).length = 1 then some [capL (listL boxes (natB r c ph pw) boxes.length)]
    else match (cutsL cl r c ph pw).head? with
      | none => none
      | some x => match textL cl boxes n (oneR r c ph pw x), textL cl boxes n (twoR r c ph pw x) with
        | some a, some b => some (letterL x :: (a ++ b))
        | _, _ => none
theorem textL_one {cl : Nat → Nat → Int} {boxes : List Box} {n r c ph pw : Nat} (h : (listL boxes (natB r c ph pw) boxes.length).length = 1) : textL cl boxes (n + 1) (r, c, ph, pw) = some [capL (listL boxes (natB r c ph pw) boxes.length)] := by
  unfold textL; rw [if_pos h]
theorem textL_none {cl : Nat → Nat → Int} {boxes : List Box} {n r c ph pw : Nat} (h : (listL boxes (natB r c ph pw) boxes.length).length ≠ 1) (hx : (cutsL cl r c ph pw).head? = none) : textL cl boxes (n + 1) (r, c, ph, pw) = none := by
  unfold textL; rw [if_neg h, hx]
theorem textL_some {cl : Nat → Nat → Int} {boxes : List Box} {n r c ph pw : Nat} (h : (listL boxes (natB r c ph pw) boxes.length).length ≠ 1) {x : Bool × Nat} (hx : (cutsL cl r c ph pw).head? = some x) : textL cl boxes (n + 1) (r, c, ph, pw) = match textL cl boxes n (oneR r c ph pw x), textL cl boxes n (twoR r c ph pw x) with
        | some a, some b => some (letterL x :: (a ++ b))
        | _, _ => none := by
  conv => lhs; unfold textL
  rw [if_neg h, hx]
theorem listL_mem {boxes : List Box} {b : Box} {n : Nat} {k : Int} (h : k ∈ listL boxes b n) : ∃ m : Nat, k = (m : Int) ∧ m < n ∧ bothB b (boxes.getD m (0, 0, 0, 0)) = b := by
  induction n with
  | zero => cases h
  | succ n ih =>
    unfold listL at h
    rcases List.mem_append.1 h with h | h
    · obtain ⟨m, a, b, c⟩ := ih h
      exact ⟨m, a, by omega, c⟩
    · split at h
      · rename_i e
        exact ⟨n, by simpa using h, by omega, e⟩
      · cases h
theorem boxIn_nat {r c ph pw : Nat} (h1 : r ≤ 1000) (h2 : c ≤ 1000) (h3 : ph ≤ 1000) (h4 : pw ≤ 1000) : BoxIn (natB r c ph pw) := ⟨⟨by simp [natB], by simp [natB]; omega⟩, ⟨by simp [natB], by simp [natB]; omega⟩, ⟨by simp [natB], by simp [natB]; omega⟩, ⟨by simp [natB], by simp [natB]; omega⟩⟩
end Go.Proofs.Ytbpppchkgjcahaa
end
section
namespace Go.Proofs.Ytbpppchkgjcahaa
open Go.RowKit Go.Shelf Go.Proofs.YtbpppchkgjcahaaW.PrintWords Go.Proofs.YtbpppchkgjcahaaW.PrintMore L3
set_option linter.unusedVariables false
def Ev {α : Type} (g : Nat → Option α) (r : α) : Prop := ∃ k0, ∀ k, k0 ≤ k → g k = some r
theorem Ev.now {α : Type} {g : Nat → Option α} {r : α} (h : ∀ k, g (k + 1) = some r) : Ev g r := ⟨1, fun k hk => by obtain ⟨j, rfl⟩ : ∃ j, k = j + 1 := ⟨k - 1, by omega⟩; exact h j⟩
theorem Ev.step {α : Type} {g g' : Nat → Option α} {r : α} (h : Ev g r) (hs : ∀ k, g' (k + 1) = g k) : Ev g' r := by
  obtain ⟨k0, h⟩ := h
  exact ⟨k0 + 1, fun k hk => by obtain ⟨j, rfl⟩ : ∃ j, k = j + 1 := ⟨k - 1, by omega⟩; rw [hs]; exact h j (by omega)⟩
theorem Ev.same {α : Type} {g g' : Nat → Option α} {r : α} (h : Ev g r) (hs : ∀ k, g' k = g k) : Ev g' r := by
  obtain ⟨k0, h⟩ := h
  exact ⟨k0, fun k hk => by rw [hs]; exact h k hk⟩
theorem Ev.bind {α β : Type} {g : Nat → Option α} {F : Nat → α → Option β} {a : α} {r : β} (h : Ev g a) (h2 : Ev (fun k => F k a) r) : Ev (fun k => (g k).bind (F k)) r := by
  obtain ⟨k0, h⟩ := h
  obtain ⟨k1, h2⟩ := h2
  exact ⟨k0 + k1, fun k hk => by show (g k).bind (F k) = _; rw [h k (by omega), Option.bind_some]; exact h2 k (by omega)⟩
theorem Ev.stepBind {α β : Type} {g : Nat → Option α} {g' : Nat → Option β} {F : Nat → α → Option β} {a : α} {r : β} (h : Ev g a) (hs : ∀ k, g' (k + 1) = (g k).bind (F k)) (h2 : Ev (fun k => F k a) r) : Ev g' r := (h.bind h2).step hs
theorem Ev.const {α : Type} (r : α) : Ev (fun _ => some r) r := ⟨0, fun _ _ => rfl⟩
theorem Ev.ex {α : Type} {g : Nat → Option α} {r : α} (h : Ev g r) : ∃ k, g k = some r := by
  obtain ⟨k0, h⟩ := h
  exact ⟨k0, h k0 (Nat.le_refl _)⟩
structure TG (p : List ByteArray) (h w : Nat) (G : Nat → Nat → Int) : Prop where
  len : p.length = h
  size : ∀ i, i < h → (rdOf ByteArray.empty p (i : Int)).size = w
  cell : ∀ i j, i < h → j < w → bt (rdOf ByteArray.empty p (i : Int)) (j : Int) = G i j
  let_ : ∀ i j, i < h → j < w → 97 ≤ G i j ∧ G i j ≤ 122
  high : 1 ≤ h ∧ h ≤ 6
  wide : 1 ≤ w ∧ w ≤ 6
theorem wsucc {j : Nat} (h : j ≤ 9000000) : wrap64 ((j : Int) + 1) = ((j + 1 : Nat) : Int) := wrap_succ h
def rowAll (G : Nat → Nat → Int) (i : Nat) : Nat → Nat → Bool
  | _, 0 => true
  | j, d + 1 => (G i j == G 0 0) && rowAll G i (j + 1) d
def gridAll (G : Nat → Nat → Int) (w : Nat) : Nat → Nat → Bool
  | _, 0 => true
  | i, d + 1 => rowAll G i 0 w && gridAll G w (i + 1) d
theorem rowAll_iff (G : Nat → Nat → Int) (i : Nat) : ∀ d j, rowAll G i j d = true ↔ ∀ c, j ≤ c → c < j + d → G i c = G 0 0 := by
  intro d
  induction d with
  | zero => intro j; simp [rowAll]; intro c h1 h2; omega
  | succ d ih =>
    intro j
    unfold rowAll
    rw [Bool.and_eq_true, beq_iff_eq, ih]
    constructor
    · rintro ⟨a, b⟩ c h1 h2
      by_cases e : c = j
      · subst e; exact a
      · exact b c (by omega) (by omega)
    · exact fun h => ⟨h j (by omega) (by omega), fun c h1 h2 => h c (by omega) (by omega)⟩
theorem gridAll_iff (G : Nat → Nat → Int) (w : Nat) : ∀ d i, gridAll G w i d = true ↔ ∀ r c, i ≤ r → r < i + d → c < w → G r c = G 0 0 := by
  intro d
  induction d with
  | zero => intro j; simp [gridAll]; intro r c h1 h2; omega
  | succ d ih =>
    intro i
    unfold gridAll
    rw [Bool.and_eq_true, rowAll_iff, ih]
    constructor
    · rintro ⟨a, b⟩ r c h1 h2 h3
      by_cases e : r = i
      · subst e; exact a c (by omega) (by omega)
      · exact b r c (by omega) (by omega) h3
    · exact fun h => ⟨fun c h1 h2 => h i c (by omega) (by omega) (by omega), fun r c h1 h2 h3 => h r c (by omega) (by omega) h3⟩
theorem one_row {p : List ByteArray} {h w : Nat} {G : Nat → Nat → Int} (t : TG p h w G) (i : Nat) (hi : i < h) (R : Bool) (hR : Ev (fun k => spec_l3One.l0 k p ((i + 1 : Nat) : Int)) R) :
    ∀ d j, j + d = w → Ev (fun k => spec_l3One.l1 k p (i : Int) (j : Int)) (rowAll G i j d && R) := by
  have hl := t.len
  have hs := t.size i hi
  have hs0 := t.size 0 (by omega)
  have hh := t.high
  have hw := t.wide
  have h00 : ((0 : Nat) : Int) = 0 := rfl
  rw [h00] at hs0
  intro d
  induction d with
  | zero =>
    intro j hj
    refine hR.step fun k => ?_
    show spec_l3One.l1 (k + 1) p _ _ = _
    unfold spec_l3One.l1
    rw [if_pos (by omega), if_pos (by omega), if_neg (by omega), wsucc (by omega)]
  | succ d ih =>
    intro j hj
    have hc0 := t.cell 0 0 (by omega) (by omega)
    rw [h00] at hc0
    have hcj := t.cell i j hi (by omega)
    unfold rowAll
    by_cases e : G i j = G 0 0
    · rw [beq_iff_eq.2 e, Bool.true_and]
      refine (ih (j + 1) (by omega)).step fun k => ?_
      show spec_l3One.l1 (k + 1) p _ _ = _
      conv => lhs; unfold spec_l3One.l1
      rw [if_pos (by omega), if_pos (by omega), if_pos (by omega), if_pos (by omega), if_pos (by omega), if_pos (by omega), if_pos (by rw [hcj, hc0]; exact e), wsucc (by omega)]
    · rw [beq_eq_false_iff_ne.2 e, Bool.false_and, Bool.false_and]
      refine Ev.now fun k => ?_
      unfold spec_l3One.l1
      rw [if_pos (by omega), if_pos (by omega), if_pos (by omega), if_pos (by omega), if_pos (by omega), if_pos (by omega), if_neg (by rw [hcj, hc0]; exact e)]
theorem one_from {p : List ByteArray} {h w : Nat} {G : Nat → Nat → Int} (t : TG p h w G) : ∀ d i, i + d = h → Ev (fun k => spec_l3One.l0 k p (i : Int)) (gridAll G w i d) := by
  have hl := t.len
  have hh := t.high
  intro d
  induction d with
  | zero =>
    intro i hi
    refine Ev.now fun k => ?_
    unfold spec_l3One.l0
    rw [if_neg (by omega)]; rfl
  | succ d ih =>
    intro i hi
    refine (one_row t i (by omega) _ (ih (i + 1) (by omega)) w 0 (by omega)).step fun k => ?_
    show spec_l3One.l0 (k + 1) p _ = _
    conv => lhs; unfold spec_l3One.l0
    rw [if_pos (by omega)]; rfl
theorem one_f {p : List ByteArray} {h w : Nat} {G : Nat → Nat → Int} (t : TG p h w G) : Ev (fun k => spec_l3One.f k p) (gridAll G w 0 h) := one_from t h 0 (by omega)
def colL (G : Nat → Nat → Int) (h k : Nat) : Int → Nat → Nat → List (List Int)
  | _, _, 0 => []
  | from_, i, d + 1 =>
    if (decide (i < h) && (G i (k - 1) != G i k)) = true then
      (if from_ < 0 then colL G h k i (i + 1) d else colL G h k from_ (i + 1) d)
    else (if from_ ≥ 0 then [(k : Int), from_, (i : Int) - from_] :: colL G h k (-1) (i + 1) d else colL G h k from_ (i + 1) d)
theorem colL_len (G : Nat → Nat → Int) (h k : Nat) : ∀ d f i, (colL G h k f i d).length ≤ d := by
  intro d
  induction d with
  | zero => intro f i; exact Nat.le_refl _
  | succ d ih =>
    intro f i
    unfold colL
    split
    · split
      · exact Nat.le_succ_of_le (ih _ _)
      · exact Nat.le_succ_of_le (ih _ _)
    · split
      · rw [List.length_cons]; exact Nat.succ_le_succ (ih _ _)
      · exact Nat.le_succ_of_le (ih _ _)
theorem up_col {p : List ByteArray} {h w : Nat} {G : Nat → Nat → Int} (t : TG p h w G) (k : Nat) (hk : 1 ≤ k ∧ k < w) (R : List (List Int)) :
    ∀ d i (acc : List (List Int)) (f : Int), i + d = h + 1 → acc.length ≤ 100 + i → -1 ≤ f → f ≤ i → Ev (fun n => spec_l2Upright.l0 n p (acc ++ colL G h k f i d) ((k + 1 : Nat) : Int)) R → Ev (fun n => spec_l2Upright.l1 n p acc (k : Int) f (i : Int)) R := by
  have hl := t.len
  have hh := t.high
  have hw := t.wide
  have hk1 : wrap64 ((k : Int) - 1) = ((k - 1 : Nat) : Int) := by unfold wrap64; omega
  intro d
  induction d with
  | zero =>
    intro i acc f hi ha hf hfi hR
    unfold colL at hR
    rw [List.append_nil] at hR
    refine hR.step fun n => ?_
    show spec_l2Upright.l1 (n + 1) p _ _ _ _ = _
    unfold spec_l2Upright.l1
    rw [if_neg (by omega), wsucc (by omega)]
  | succ d ih =>
    intro i acc f hi ha hf hfi hR
    unfold colL at hR
    have key : ∀ b : Bool, (decide (i < h) && (G i (k - 1) != G i k)) = b → Ev (fun n => spec_l2Upright.j2 n p acc (k : Int) f (i : Int) b) R → Ev (fun n => spec_l2Upright.l1 n p acc (k : Int) f (i : Int)) R := by
      intro b hb hE
      refine hE.step fun n => ?_
      show spec_l2Upright.l1 (n + 1) p _ _ _ _ = _
      unfold spec_l2Upright.l1
      rw [if_pos (by omega)]
      by_cases hih : i < h
      · have hs := t.size i hih
        have c1 := t.cell i (k - 1) hih (by omega)
        have c2 := t.cell i k hih (by omega)
        rw [if_pos (by omega), if_pos (by omega), hk1, if_pos (by omega), if_pos (by omega), if_pos (by omega), if_pos (by omega), c1, c2]
        rw [decide_eq_true hih, Bool.true_and] at hb
        rw [hb]
      · rw [if_neg (by omega)]
        rw [decide_eq_false hih, Bool.false_and] at hb
        rw [hb]
    have hw1 : wrap64 ((i : Int) - f) = (i : Int) - f := by unfold wrap64; omega
    cases hb : (decide (i < h) && (G i (k - 1) != G i k)) with
    | true =>
      rw [hb, if_pos rfl] at hR
      refine key true hb ?_
      by_cases hf0 : f < 0
      · rw [if_pos hf0] at hR
        refine ((ih (i + 1) acc i (by omega) (by omega) (by omega) (by omega) hR).step (g' := fun n => spec_l2Upright.j3 n p acc (k : Int) f (i : Int) true true) fun n => ?_).step fun n => ?_
        · show spec_l2Upright.j3 (n + 1) p _ _ _ _ _ _ = _
          unfold spec_l2Upright.j3
          rw [if_pos rfl, if_pos rfl, wsucc (by omega)]
        · show spec_l2Upright.j2 (n + 1) p _ _ _ _ _ = _
          unfold spec_l2Upright.j2
          rw [if_pos rfl, decide_eq_true hf0]
      · rw [if_neg hf0] at hR
        refine ((ih (i + 1) acc f (by omega) (by omega) (by omega) (by omega) hR).step (g' := fun n => spec_l2Upright.j3 n p acc (k : Int) f (i : Int) true false) fun n => ?_).step fun n => ?_
        · show spec_l2Upright.j3 (n + 1) p _ _ _ _ _ _ = _
          unfold spec_l2Upright.j3
          rw [if_neg (by simp), if_pos rfl, wsucc (by omega)]
        · show spec_l2Upright.j2 (n + 1) p _ _ _ _ _ = _
          unfold spec_l2Upright.j2
          rw [if_pos rfl, decide_eq_false hf0]
    | false =>
      rw [hb, if_neg (by simp)] at hR
      refine key false hb ?_
      by_cases hf0 : f ≥ 0
      · rw [if_pos hf0] at hR
        rw [show acc ++ [(k : Int), f, (i : Int) - f] :: colL G h k (-1) (i + 1) d = (acc ++ [[(k : Int), f, (i : Int) - f]]) ++ colL G h k (-1) (i + 1) d by simp] at hR
        refine ((ih (i + 1) _ (-1) (by omega) (by rw [List.length_append]; simp; omega) (by omega) (by omega) hR).step (g' := fun n => spec_l2Upright.j3 n p acc (k : Int) f (i : Int) false false) fun n => ?_).step fun n => ?_
        · show spec_l2Upright.j3 (n + 1) p _ _ _ _ _ _ = _
          unfold spec_l2Upright.j3
          rw [if_neg (by simp), if_neg (by simp), if_pos hf0, if_pos (by omega), hw1, wsucc (by omega)]
        · show spec_l2Upright.j2 (n + 1) p _ _ _ _ _ = _
          unfold spec_l2Upright.j2
          rw [if_neg (by simp)]
      · rw [if_neg hf0] at hR
        refine ((ih (i + 1) acc f (by omega) (by omega) (by omega) (by omega) hR).step (g' := fun n => spec_l2Upright.j3 n p acc (k : Int) f (i : Int) false false) fun n => ?_).step fun n => ?_
        · show spec_l2Upright.j3 (n + 1) p _ _ _ _ _ _ = _
          unfold spec_l2Upright.j3
          rw [if_neg (by simp), if_neg (by simp), if_neg hf0, wsucc (by omega)]
        · show spec_l2Upright.j2 (n + 1) p _ _ _ _ _ = _
          unfold spec_l2Upright.j2
          rw [if_neg (by simp)]
def upL (G : Nat → Nat → Int) (h : Nat) : Nat → Nat → List (List Int)
  | _, 0 => []
  | k, d + 1 => colL G h k (-1) 0 (h + 1) ++ upL G h (k + 1) d
theorem upL_len (G : Nat → Nat → Int) (h : Nat) : ∀ d k, (upL G h k d).length ≤ d * (h + 1) := by
  intro d
  induction d with
  | zero => intro k; simp [upL]
  | succ d ih =>
    intro k
    unfold upL
    have := colL_len G h k (h + 1) (-1) 0
    have := ih (k + 1)
    rw [List.length_append, Nat.succ_mul]
    omega
theorem up_from {p : List ByteArray} {h w : Nat} {G : Nat → Nat → Int} (t : TG p h w G) : ∀ d k (acc : List (List Int)), k + d = w → 1 ≤ k → acc.length ≤ 7 * k → Ev (fun n => spec_l2Upright.l0 n p acc (k : Int)) (acc ++ upL G h k d) := by
  have hl := t.len
  have hh := t.high
  have hw := t.wide
  have hs0 := t.size 0 (by omega)
  rw [show ((0 : Nat) : Int) = 0 from rfl] at hs0
  intro d
  induction d with
  | zero =>
    intro k acc hk h1 ha
    refine Ev.now fun n => ?_
    unfold spec_l2Upright.l0
    rw [if_pos (by omega), if_neg (by omega)]
    unfold upL
    rw [List.append_nil]
  | succ d ih =>
    intro k acc hk h1 ha
    have hc := colL_len G h k (h + 1) (-1) 0
    have hE := ih (k + 1) (acc ++ colL G h k (-1) 0 (h + 1)) (by omega) (by omega) (by rw [List.length_append]; omega)
    rw [List.append_assoc] at hE
    refine (up_col t k (by omega) _ (h + 1) 0 acc (-1) (by omega) (by omega) (by omega) (by omega) hE).step fun n => ?_
    show spec_l2Upright.l0 (n + 1) p _ _ = _
    conv => lhs; unfold spec_l2Upright.l0
    rw [if_pos (by omega), if_pos (by omega)]; rfl
theorem up_f {p : List ByteArray} {h w : Nat} {G : Nat → Nat → Int} (t : TG p h w G) : Ev (fun n => spec_l2Upright.f n p) (upL G h 1 (w - 1)) := by
  have := up_from t (w - 1) 1 [] (by have := t.wide; omega) (by omega) (by simp)
  exact this
end Go.Proofs.Ytbpppchkgjcahaa
end
