/- The program's stuck. -/
import Derived.Test.YtdhnjecbdclmaaaKSText
namespace Go.Proofs.Ytdhnjecbdclmaaa
open Go.RowKit Go.Shelf Go.Proofs.YtdhnjecbdclmaaaW.PrintWords Go.Proofs.YtdhnjecbdclmaaaW.PrintMore
set_option linter.unusedVariables false
set_option linter.unusedSimpArgs false
def stuckL (cl : Nat → Nat → Int) (boxes : List Box) : Nat → Rc → Option Rc
  | 0, _ => none
  | n + 1, (r, c, ph, pw) =>
    if (listL boxes (natB r c ph pw) boxes.length).length = 1 then none
    else match (cutsL cl r c ph pw).head? with
      | none => some (r, c, ph, pw)
      | some x => match stuckL cl boxes n (oneR r c ph pw x) with
        | some R => some R
        | none => stuckL cl boxes n (twoR r c ph pw x)
def noPart : Array Value := #[.pointer none, .int .i64 0, .int .i64 0, .int .i64 0, .int .i64 0]
def stuckC (fb : Nat) : Option Rc → Array Value
  | none => noPart
  | some R => partCells fb (boxR R)
def stuckV (fb : Nat) (o : Option Rc) : Value := .tuple #[.agg (stuckC fb o), .bool o.isSome]
theorem set5 (cs : Array Value) (hs : cs.size = 5) (v0 v1 v2 v3 v4 : Value) : (((((cs.setIfInBounds 0 v0).setIfInBounds 1 v1).setIfInBounds 2 v2).setIfInBounds 3 v3).setIfInBounds 4 v4) = #[v0, v1, v2, v3, v4] := by
  obtain ⟨l⟩ := cs
  match l, hs with
  | [a0, a1, a2, a3, a4], _ => simp
theorem put5 {W : World} {b : Nat} {t : TypeId} {cs : Array Value} (h : W.heap[b]? = some (.cells cs t (0, 0))) (hs : cs.size = 5) (v0 v1 v2 v3 v4 : Value) :
    (((((W.setCell ⟨b, 0, none⟩ v0).setCell ⟨b, 1, none⟩ v1).setCell ⟨b, 2, none⟩ v2).setCell ⟨b, 3, none⟩ v3).setCell ⟨b, 4, none⟩ v4).heap[b]? = some (.cells #[v0, v1, v2, v3, v4] t (0, 0)) := by
  have := Go.Joins.block_setCell (i := 4) (Go.Joins.block_setCell (i := 3) (Go.Joins.block_setCell (i := 2) (Go.Joins.block_setCell (i := 1) (Go.Joins.block_setCell (i := 0) h v0) v1) v2) v3) v4
  rwa [set5 cs hs] at this
set_option maxRecDepth 100000 in
set_option maxHeartbeats 8000000 in
theorem stuck_any (fb h wd : Nat) (cl : Nat → Nat → Int) (boxes : List Box) (hh : h ≤ 6) (hwd : wd ≤ 6) (hbs : ∀ x ∈ boxes, BoxIn x) (hn : boxes.length ≤ 9) :
    ∀ (n : Nat), n ≤ 13 → ∀ (r c ph pw : Nat), ph + pw < n → r + ph ≤ h → c + pw ≤ wd → ∀ (w : World), FloorR w fb h wd cl boxes →
    Calls Try.prog 88 #[partV fb (natB r c ph pw)] w fun e w' => e = .returned (stuckV fb (stuckL cl boxes n (r, c, ph, pw))) ∧ Below w.heap.size w w' := by
  intro n
  induction n with
  | zero => intro _ r c ph pw h0; omega
  | succ n ih =>
    intro hn13 r c ph pw hlt hr hc w hf
    have HAL := Aside0.mk (fun W (hW : Below w.heap.size w W) => alone_any fb h wd cl boxes W (hf.below hW) (natB r c ph pw) (boxIn_nat (by omega) (by omega) (by omega) (by omega)) hbs (by omega))
    have HFI := Aside0.mk (fun W (hW : Below w.heap.size w W) => first_any fb h wd cl boxes W (hf.below hW) (by omega) (by omega) r c ph pw hr hc _ rfl)
    have HIH := Aside0.mk (fun (R : Rc) (hR : Within r c ph pw R) W (hW : Below w.heap.size w W) => ih (by omega) R.1 R.2.1 R.2.2.1 R.2.2.2 (by have := hR.less; omega) (by have := hR.row; omega) (by have := hR.col; omega) W (hf.below hW))
    clear ih hf
    have hA0 := heap_alloc_new w (.cells #[.pointer (some ⟨fb, 0, none⟩), .int .i64 r, .int .i64 c, .int .i64 ph, .int .i64 pw] 58)
    have hA1 := heap_alloc_new (w.alloc (.cells #[.pointer (some ⟨fb, 0, none⟩), .int .i64 r, .int .i64 c, .int .i64 ph, .int .i64 pw] 58)) (.cells noPart 58)
    rw [World.size_alloc] at hA1
    have hA2 := (Below.heap_alloc (w.alloc (.cells #[.pointer (some ⟨fb, 0, none⟩), .int .i64 r, .int .i64 c, .int .i64 ph, .int .i64 pw] 58)) (.cells noPart 58) w.heap.size (by simp)).trans hA0
    have hB0 := (((Below.refl _ w).alloc (Nat.le_refl _) (.cells #[.pointer (some ⟨fb, 0, none⟩), .int .i64 r, .int .i64 c, .int .i64 ph, .int .i64 pw] 58)).alloc (by simp) (.cells noPart 58))
    have HA1 := Aside0.mk hA1
    have HA2 := Aside0.mk hA2
    have HB0 := Aside0.mk hB0
    clear hA0 hA1 hA2 hB0
    by_cases h1 : (listL boxes (natB r c ph pw) boxes.length).length = 1
    · have hb1 : ((((listL boxes (natB r c ph pw) boxes.length).length : Nat) : Int) == 1) = true := by rw [beq_iff_eq]; omega
      have hv : stuckL cl boxes (n + 1) (r, c, ph, pw) = none := by unfold stuckL; rw [if_pos h1]
      rw [hb1] at HAL
      rw [hv]
      clear h1 hb1 hv HFI HIH
      simp only [partV, natB, stuckV, stuckC, noPart] at HAL HA1 HA2 HB0 ⊢
      go_enter Try.func88, Try.ntmps88
      go_wp2_with fail
      refine (HAL.out _ HB0.out).mono ?_
      rintro e w1 ⟨rfl, hb1⟩
      have hp := (hb1.block (w.heap.size + 1) (by simp)).trans HA1.out
      have p0 := blk_cell hp 0
      have p1 := blk_cell hp 1
      have p2 := blk_cell hp 2
      have p3 := blk_cell hp 3
      have p4 := blk_cell hp 4
      simp at p0 p1 p2 p3 p4
      have f0 := blk_frozen hp 0
      have f1 := blk_frozen hp 1
      have f2 := blk_frozen hp 2
      have f3 := blk_frozen hp 3
      have f4 := blk_frozen hp 4
      have HP := Aside0.mk hp
      have HB1 := Aside0.mk (HB0.out.trans (hb1.mono HB0.out.size))
      clear hb1 hp
      go_wp2_with fail
      have hq := put5 HP.out rfl (.pointer none) (.int .i64 0) (.int .i64 0) (.int .i64 0) (.int .i64 0)
      have q0 := blk_cell hq 0
      have q1 := blk_cell hq 1
      have q2 := blk_cell hq 2
      have q3 := blk_cell hq 3
      have q4 := blk_cell hq 4
      simp at q0 q1 q2 q3 q4
      refine bodyPost_ret (v := .tuple #[.agg #[.pointer none, .int .i64 0, .int .i64 0, .int .i64 0, .int .i64 0], .bool false]) (by simp [results, Try.f88, go_sem, q0, q1, q2, q3, q4]) rfl ⟨rfl, ?_⟩
      iterate 5 refine Below.setCell ?_ (by show w.heap.size ≤ _; dsimp only; omega) _
      exact HB1.out
    · have hb1 : ((((listL boxes (natB r c ph pw) boxes.length).length : Nat) : Int) == 1) = false := by rw [beq_eq_false_iff_ne]; omega
      rw [hb1] at HAL
      cases hx : (cutsL cl r c ph pw).head? with
      | none =>
        have hv : stuckL cl boxes (n + 1) (r, c, ph, pw) = some (r, c, ph, pw) := by unfold stuckL; rw [if_neg h1, hx]
        rw [hx] at HFI
        rw [hv]
        clear h1 hb1 hv hx HIH
        simp only [partV, natB, stuckV, stuckC, noPart, firstV, partCells, boxR, Option.isSome_none, Option.isSome_some] at HAL HFI HA1 HA2 HB0 ⊢
        simp only [noPieces] at HFI
        go_enter Try.func88, Try.ntmps88
        go_wp2_with fail
        refine (HAL.out _ HB0.out).mono ?_
        rintro e w1 ⟨rfl, hb1⟩
        have hp := (hb1.block (w.heap.size + 1) (by simp)).trans HA1.out
        have ht := (hb1.block w.heap.size (by simp; omega)).trans HA2.out
        have p0 := blk_cell ht 0
        have p1 := blk_cell ht 1
        have p2 := blk_cell ht 2
        have p3 := blk_cell ht 3
        have p4 := blk_cell ht 4
        simp at p0 p1 p2 p3 p4
        have HP := Aside0.mk hp
        have HT := Aside0.mk ht
        have HB1 := Aside0.mk (HB0.out.trans (hb1.mono HB0.out.size))
        clear hb1 hp ht
        go_wp2_with fail
        refine (HFI.out _ HB1.out).mono ?_
        rintro e w2 ⟨rfl, hb2⟩
        have hp := (hb2.block (w.heap.size + 1) (Array.getElem?_eq_some_iff.1 HP.out).1).trans HP.out
        have ht := (hb2.block w.heap.size (Array.getElem?_eq_some_iff.1 HT.out).1).trans HT.out
        have HP2 := Aside0.mk hp
        have HT2 := Aside0.mk ht
        have HB2 := Aside0.mk (HB1.out.trans (hb2.mono HB1.out.size))
        clear p0 p1 p2 p3 p4
        clear hb2 hp ht
        obtain ⟨w3, hw3⟩ : ∃ w3 : World, w3 = w2.alloc (.cells noPieces 109) := ⟨_, rfl⟩
        have hp := (Below.heap_alloc w2 (.cells noPieces 109) (w.heap.size + 1) (Array.getElem?_eq_some_iff.1 HP2.out).1).trans HP2.out
        have ht := (Below.heap_alloc w2 (.cells noPieces 109) w.heap.size (Array.getElem?_eq_some_iff.1 HT2.out).1).trans HT2.out
        have hb3 := HB2.out.alloc HB2.out.size (.cells noPieces 109)
        rw [← hw3] at hp ht hb3
        unfold noPieces at hw3
        have p0 := blk_cell ht 0
        have p1 := blk_cell ht 1
        have p2 := blk_cell ht 2
        have p3 := blk_cell ht 3
        have p4 := blk_cell ht 4
        simp at p0 p1 p2 p3 p4
        have q0 := blk_cell hp 0
        have q1 := blk_cell hp 1
        have q2 := blk_cell hp 2
        have q3 := blk_cell hp 3
        have q4 := blk_cell hp 4
        simp at q0 q1 q2 q3 q4
        have qf0 := blk_frozen hp 0
        have qf1 := blk_frozen hp 1
        have qf2 := blk_frozen hp 2
        have qf3 := blk_frozen hp 3
        have qf4 := blk_frozen hp 4
        have HP3 := Aside0.mk hp
        have HB3 := Aside0.mk hb3
        clear hp ht hb3
        go_upto_region 4 with fail
        rw [← hw3]
        clear hw3
        go_wp2_with fail
        have hq := put5 HP3.out rfl (.pointer (some ⟨fb, 0, none⟩)) (.int .i64 r) (.int .i64 c) (.int .i64 ph) (.int .i64 pw)
        have z0 := blk_cell hq 0
        have z1 := blk_cell hq 1
        have z2 := blk_cell hq 2
        have z3 := blk_cell hq 3
        have z4 := blk_cell hq 4
        simp at z0 z1 z2 z3 z4
        refine bodyPost_ret (v := .tuple #[.agg #[.pointer (some ⟨fb, 0, none⟩), .int .i64 r, .int .i64 c, .int .i64 ph, .int .i64 pw], .bool true]) (by simp [results, Try.f88, go_sem, z0, z1, z2, z3, z4]) rfl ⟨rfl, ?_⟩
        iterate 5 refine Below.setCell ?_ (by show w.heap.size ≤ _; dsimp only; omega) _
        exact HB3.out
      | some x =>
        have hxm := head_in hx
        have H1 := Aside0.mk (HIH.out _ (one_in hxm))
        have H2 := Aside0.mk (HIH.out _ (two_in hxm))
        rw [hx] at HFI
        have hv : stuckL cl boxes (n + 1) (r, c, ph, pw) = match stuckL cl boxes n (oneR r c ph pw x) with
            | some R => some R
            | none => stuckL cl boxes n (twoR r c ph pw x) := by
          conv => lhs; unfold stuckL
          rw [if_neg h1, hx]
        rw [hv]
        obtain ⟨o1, ho1⟩ : ∃ o, stuckL cl boxes n (oneR r c ph pw x) = o := ⟨_, rfl⟩
        obtain ⟨o2, ho2⟩ : ∃ o, stuckL cl boxes n (twoR r c ph pw x) = o := ⟨_, rfl⟩
        have HONE : Aside0 (∀ W, Below w.heap.size w W → Calls Try.prog 88 #[.agg #[.pointer (some ⟨fb, 0, none⟩), .int .i64 (oneB r c ph pw x).1, .int .i64 (oneB r c ph pw x).2.1, .int .i64 (oneB r c ph pw x).2.2.1, .int .i64 (oneB r c ph pw x).2.2.2]] W fun e w' => e = .returned (stuckV fb o1) ∧ Below W.heap.size W w') := ⟨fun W hW => by rw [oneB_R, ← ho1]; exact H1.out W hW⟩
        have HTWO : Aside0 (∀ W, Below w.heap.size w W → Calls Try.prog 88 #[.agg #[.pointer (some ⟨fb, 0, none⟩), .int .i64 (twoB r c ph pw x).1, .int .i64 (twoB r c ph pw x).2.1, .int .i64 (twoB r c ph pw x).2.2.1, .int .i64 (twoB r c ph pw x).2.2.2]] W fun e w' => e = .returned (stuckV fb o2) ∧ Below W.heap.size W w') := ⟨fun W hW => by rw [twoB_R, ← ho2]; exact H2.out W hW⟩
        rw [ho1, ho2]
        clear H1 H2 ho1 ho2 hv hx hxm h1 hb1 HIH
        cases o1 with
        | none =>
         simp only [partV, natB, firstV, piecesV, Option.isSome_some] at HAL HFI HA1 HA2 HB0 ⊢
         simp only [stuckV, stuckC, noPart, Option.isSome_none] at HONE HA1 HB0
         go_enter Try.func88, Try.ntmps88
         go_wp2_with fail
         refine (HAL.out _ HB0.out).mono ?_
         rintro e w1 ⟨rfl, hb1⟩
         have hp := (hb1.block (w.heap.size + 1) (by simp)).trans HA1.out
         have ht := (hb1.block w.heap.size (by simp; omega)).trans HA2.out
         have p0 := blk_cell ht 0
         have p1 := blk_cell ht 1
         have p2 := blk_cell ht 2
         have p3 := blk_cell ht 3
         have p4 := blk_cell ht 4
         simp at p0 p1 p2 p3 p4
         have HP := Aside0.mk hp
         have HT := Aside0.mk ht
         have HB1 := Aside0.mk (HB0.out.trans (hb1.mono HB0.out.size))
         clear hb1 hp ht
         go_wp2_with fail
         refine (HFI.out _ HB1.out).mono ?_
         rintro e w2 ⟨rfl, hb2⟩
         have hp := (hb2.block (w.heap.size + 1) (Array.getElem?_eq_some_iff.1 HP.out).1).trans HP.out
         have ht := (hb2.block w.heap.size (Array.getElem?_eq_some_iff.1 HT.out).1).trans HT.out
         have HP2 := Aside0.mk hp
         have HT2 := Aside0.mk ht
         have HB2 := Aside0.mk (HB1.out.trans (hb2.mono HB1.out.size))
         clear p0 p1 p2 p3 p4
         clear hb2 hp ht
         obtain ⟨w3, hw3⟩ : ∃ w3 : World, w3 = w2.alloc (.cells #[.bool x.1, .pointer (some ⟨fb, 0, none⟩), .int .i64 (oneB r c ph pw x).1, .int .i64 (oneB r c ph pw x).2.1, .int .i64 (oneB r c ph pw x).2.2.1, .int .i64 (oneB r c ph pw x).2.2.2, .pointer (some ⟨fb, 0, none⟩), .int .i64 (twoB r c ph pw x).1, .int .i64 (twoB r c ph pw x).2.1, .int .i64 (twoB r c ph pw x).2.2.1, .int .i64 (twoB r c ph pw x).2.2.2] 109) := ⟨_, rfl⟩
         have hp := (Below.heap_alloc w2 (.cells #[.bool x.1, .pointer (some ⟨fb, 0, none⟩), .int .i64 (oneB r c ph pw x).1, .int .i64 (oneB r c ph pw x).2.1, .int .i64 (oneB r c ph pw x).2.2.1, .int .i64 (oneB r c ph pw x).2.2.2, .pointer (some ⟨fb, 0, none⟩), .int .i64 (twoB r c ph pw x).1, .int .i64 (twoB r c ph pw x).2.1, .int .i64 (twoB r c ph pw x).2.2.1, .int .i64 (twoB r c ph pw x).2.2.2] 109) (w.heap.size + 1) (Array.getElem?_eq_some_iff.1 HP2.out).1).trans HP2.out
         have hz := heap_alloc_new w2 (.cells #[.bool x.1, .pointer (some ⟨fb, 0, none⟩), .int .i64 (oneB r c ph pw x).1, .int .i64 (oneB r c ph pw x).2.1, .int .i64 (oneB r c ph pw x).2.2.1, .int .i64 (oneB r c ph pw x).2.2.2, .pointer (some ⟨fb, 0, none⟩), .int .i64 (twoB r c ph pw x).1, .int .i64 (twoB r c ph pw x).2.1, .int .i64 (twoB r c ph pw x).2.2.1, .int .i64 (twoB r c ph pw x).2.2.2] 109)
         have hb3 := HB2.out.alloc HB2.out.size (.cells #[.bool x.1, .pointer (some ⟨fb, 0, none⟩), .int .i64 (oneB r c ph pw x).1, .int .i64 (oneB r c ph pw x).2.1, .int .i64 (oneB r c ph pw x).2.2.1, .int .i64 (oneB r c ph pw x).2.2.2, .pointer (some ⟨fb, 0, none⟩), .int .i64 (twoB r c ph pw x).1, .int .i64 (twoB r c ph pw x).2.1, .int .i64 (twoB r c ph pw x).2.2.1, .int .i64 (twoB r c ph pw x).2.2.2] 109)
         have hs3 : w3.heap.size = w2.heap.size + 1 := by rw [hw3]; simp
         rw [← hw3] at hp hb3 hz
         have n1 := blk_cell hz 1
         have n2 := blk_cell hz 2
         have n3 := blk_cell hz 3
         have n4 := blk_cell hz 4
         have n5 := blk_cell hz 5
         simp at n1 n2 n3 n4 n5
         have HP3 := Aside0.mk hp
         have HZ3 := Aside0.mk hz
         have HB3 := Aside0.mk hb3
         have HS3 := Aside0.mk hs3
         clear hp hb3 hz hs3
         go_upto_region 4 with fail
         rw [← hw3]
         clear hw3
         go_wp2_with fail
         refine (HONE.out _ HB3.out).mono ?_
         rintro e w4 ⟨rfl, hb4⟩
         have hp := (hb4.block (w.heap.size + 1) (Array.getElem?_eq_some_iff.1 HP3.out).1).trans HP3.out
         have hz := (hb4.block w2.heap.size (Array.getElem?_eq_some_iff.1 HZ3.out).1).trans HZ3.out
         have HB4 := Aside0.mk (HB3.out.trans (hb4.mono HB3.out.size))
         clear hb4 n1 n2 n3 n4 n5
         obtain ⟨w5, hw5⟩ : ∃ w5 : World, w5 = w4.alloc (.cells #[.pointer none, .int .i64 0, .int .i64 0, .int .i64 0, .int .i64 0] 58) := ⟨_, rfl⟩
         have hp5 := (Below.heap_alloc w4 (.cells #[.pointer none, .int .i64 0, .int .i64 0, .int .i64 0, .int .i64 0] 58) (w.heap.size + 1) (Array.getElem?_eq_some_iff.1 hp).1).trans hp
         have hz5 := (Below.heap_alloc w4 (.cells #[.pointer none, .int .i64 0, .int .i64 0, .int .i64 0, .int .i64 0] 58) w2.heap.size (Array.getElem?_eq_some_iff.1 hz).1).trans hz
         have hb5 := HB4.out.alloc HB4.out.size (.cells #[.pointer none, .int .i64 0, .int .i64 0, .int .i64 0, .int .i64 0] 58)
         rw [← hw5] at hp5 hz5 hb5
         have n6 := blk_cell hz5 6
         have n7 := blk_cell hz5 7
         have n8 := blk_cell hz5 8
         have n9 := blk_cell hz5 9
         have n10 := blk_cell hz5 10
         simp at n6 n7 n8 n9 n10
         have HP5 := Aside0.mk hp5
         have HB5 := Aside0.mk hb5
         clear hp hz hp5 hz5 hb5
         go_upto_region 7 with fail
         rw [← hw5]
         clear hw5
         go_wp2_with fail
         refine (HTWO.out _ HB5.out).mono ?_
         rintro e w6 ⟨rfl, hb6⟩
         have hp := (hb6.block (w.heap.size + 1) (Array.getElem?_eq_some_iff.1 HP5.out).1).trans HP5.out
         have HB6 := Aside0.mk (HB5.out.trans (hb6.mono HB5.out.size))
         clear hb6 n6 n7 n8 n9 n10
         have q0 := blk_cell hp 0
         have q1 := blk_cell hp 1
         have q2 := blk_cell hp 2
         have q3 := blk_cell hp 3
         have q4 := blk_cell hp 4
         simp at q0 q1 q2 q3 q4
         have qf0 := blk_frozen hp 0
         have qf1 := blk_frozen hp 1
         have qf2 := blk_frozen hp 2
         have qf3 := blk_frozen hp 3
         have qf4 := blk_frozen hp 4
         have HP6 := Aside0.mk hp
         clear hp
         cases o2 with
         | none =>
           simp only [stuckV, stuckC, noPart, Option.isSome_none]
           go_wp2_with fail
           have hq := put5 HP6.out rfl (.pointer none) (.int .i64 0) (.int .i64 0) (.int .i64 0) (.int .i64 0)
           have z0 := blk_cell hq 0
           have z1 := blk_cell hq 1
           have z2 := blk_cell hq 2
           have z3 := blk_cell hq 3
           have z4 := blk_cell hq 4
           simp at z0 z1 z2 z3 z4
           refine bodyPost_ret (v := .tuple #[.agg #[.pointer none, .int .i64 0, .int .i64 0, .int .i64 0, .int .i64 0], .bool false]) (by simp [results, Try.f88, go_sem, z0, z1, z2, z3, z4]) rfl ⟨rfl, ?_⟩
           iterate 5 refine Below.setCell ?_ (by show w.heap.size ≤ _; dsimp only; omega) _
           exact HB6.out
         | some R =>
           simp only [stuckV, stuckC, partCells, Option.isSome_some]
           go_wp2_with fail
           have hq := put5 HP6.out rfl (.pointer (some ⟨fb, 0, none⟩)) (.int .i64 (boxR R).1) (.int .i64 (boxR R).2.1) (.int .i64 (boxR R).2.2.1) (.int .i64 (boxR R).2.2.2)
           have z0 := blk_cell hq 0
           have z1 := blk_cell hq 1
           have z2 := blk_cell hq 2
           have z3 := blk_cell hq 3
           have z4 := blk_cell hq 4
           simp at z0 z1 z2 z3 z4
           refine bodyPost_ret (v := .tuple #[.agg #[.pointer (some ⟨fb, 0, none⟩), .int .i64 (boxR R).1, .int .i64 (boxR R).2.1, .int .i64 (boxR R).2.2.1, .int .i64 (boxR R).2.2.2], .bool true]) (by simp [results, Try.f88, go_sem, z0, z1, z2, z3, z4]) rfl ⟨rfl, ?_⟩
           iterate 5 refine Below.setCell ?_ (by show w.heap.size ≤ _; dsimp only; omega) _
           exact HB6.out
        | some R =>
         simp only [partV, natB, firstV, piecesV, Option.isSome_some] at HAL HFI HA1 HA2 HB0 ⊢
         simp only [stuckV, stuckC, noPart, partCells, Option.isSome_some] at HONE HA1 HB0 ⊢
         go_enter Try.func88, Try.ntmps88
         go_wp2_with fail
         refine (HAL.out _ HB0.out).mono ?_
         rintro e w1 ⟨rfl, hb1⟩
         have hp := (hb1.block (w.heap.size + 1) (by simp)).trans HA1.out
         have ht := (hb1.block w.heap.size (by simp; omega)).trans HA2.out
         have p0 := blk_cell ht 0
         have p1 := blk_cell ht 1
         have p2 := blk_cell ht 2
         have p3 := blk_cell ht 3
         have p4 := blk_cell ht 4
         simp at p0 p1 p2 p3 p4
         have HP := Aside0.mk hp
         have HT := Aside0.mk ht
         have HB1 := Aside0.mk (HB0.out.trans (hb1.mono HB0.out.size))
         clear hb1 hp ht
         go_wp2_with fail
         refine (HFI.out _ HB1.out).mono ?_
         rintro e w2 ⟨rfl, hb2⟩
         have hp := (hb2.block (w.heap.size + 1) (Array.getElem?_eq_some_iff.1 HP.out).1).trans HP.out
         have ht := (hb2.block w.heap.size (Array.getElem?_eq_some_iff.1 HT.out).1).trans HT.out
         have HP2 := Aside0.mk hp
         have HT2 := Aside0.mk ht
         have HB2 := Aside0.mk (HB1.out.trans (hb2.mono HB1.out.size))
         clear p0 p1 p2 p3 p4
         clear hb2 hp ht
         obtain ⟨w3, hw3⟩ : ∃ w3 : World, w3 = w2.alloc (.cells #[.bool x.1, .pointer (some ⟨fb, 0, none⟩), .int .i64 (oneB r c ph pw x).1, .int .i64 (oneB r c ph pw x).2.1, .int .i64 (oneB r c ph pw x).2.2.1, .int .i64 (oneB r c ph pw x).2.2.2, .pointer (some ⟨fb, 0, none⟩), .int .i64 (twoB r c ph pw x).1, .int .i64 (twoB r c ph pw x).2.1, .int .i64 (twoB r c ph pw x).2.2.1, .int .i64 (twoB r c ph pw x).2.2.2] 109) := ⟨_, rfl⟩
         have hp := (Below.heap_alloc w2 (.cells #[.bool x.1, .pointer (some ⟨fb, 0, none⟩), .int .i64 (oneB r c ph pw x).1, .int .i64 (oneB r c ph pw x).2.1, .int .i64 (oneB r c ph pw x).2.2.1, .int .i64 (oneB r c ph pw x).2.2.2, .pointer (some ⟨fb, 0, none⟩), .int .i64 (twoB r c ph pw x).1, .int .i64 (twoB r c ph pw x).2.1, .int .i64 (twoB r c ph pw x).2.2.1, .int .i64 (twoB r c ph pw x).2.2.2] 109) (w.heap.size + 1) (Array.getElem?_eq_some_iff.1 HP2.out).1).trans HP2.out
         have hz := heap_alloc_new w2 (.cells #[.bool x.1, .pointer (some ⟨fb, 0, none⟩), .int .i64 (oneB r c ph pw x).1, .int .i64 (oneB r c ph pw x).2.1, .int .i64 (oneB r c ph pw x).2.2.1, .int .i64 (oneB r c ph pw x).2.2.2, .pointer (some ⟨fb, 0, none⟩), .int .i64 (twoB r c ph pw x).1, .int .i64 (twoB r c ph pw x).2.1, .int .i64 (twoB r c ph pw x).2.2.1, .int .i64 (twoB r c ph pw x).2.2.2] 109)
         have hb3 := HB2.out.alloc HB2.out.size (.cells #[.bool x.1, .pointer (some ⟨fb, 0, none⟩), .int .i64 (oneB r c ph pw x).1, .int .i64 (oneB r c ph pw x).2.1, .int .i64 (oneB r c ph pw x).2.2.1, .int .i64 (oneB r c ph pw x).2.2.2, .pointer (some ⟨fb, 0, none⟩), .int .i64 (twoB r c ph pw x).1, .int .i64 (twoB r c ph pw x).2.1, .int .i64 (twoB r c ph pw x).2.2.1, .int .i64 (twoB r c ph pw x).2.2.2] 109)
         have hs3 : w3.heap.size = w2.heap.size + 1 := by rw [hw3]; simp
         rw [← hw3] at hp hb3 hz
         have n1 := blk_cell hz 1
         have n2 := blk_cell hz 2
         have n3 := blk_cell hz 3
         have n4 := blk_cell hz 4
         have n5 := blk_cell hz 5
         simp at n1 n2 n3 n4 n5
         have HP3 := Aside0.mk hp
         have HZ3 := Aside0.mk hz
         have HB3 := Aside0.mk hb3
         have HS3 := Aside0.mk hs3
         clear hp hb3 hz hs3
         go_upto_region 4 with fail
         rw [← hw3]
         clear hw3
         go_wp2_with fail
         refine (HONE.out _ HB3.out).mono ?_
         rintro e w4 ⟨rfl, hb4⟩
         have hp := (hb4.block (w.heap.size + 1) (Array.getElem?_eq_some_iff.1 HP3.out).1).trans HP3.out
         have hz := (hb4.block w2.heap.size (Array.getElem?_eq_some_iff.1 HZ3.out).1).trans HZ3.out
         have HB4 := Aside0.mk (HB3.out.trans (hb4.mono HB3.out.size))
         clear hb4 n1 n2 n3 n4 n5
         obtain ⟨w5, hw5⟩ : ∃ w5 : World, w5 = w4.alloc (.cells #[.pointer (some ⟨fb, 0, none⟩), .int .i64 (boxR R).1, .int .i64 (boxR R).2.1, .int .i64 (boxR R).2.2.1, .int .i64 (boxR R).2.2.2] 58) := ⟨_, rfl⟩
         have hp5 := (Below.heap_alloc w4 (.cells #[.pointer (some ⟨fb, 0, none⟩), .int .i64 (boxR R).1, .int .i64 (boxR R).2.1, .int .i64 (boxR R).2.2.1, .int .i64 (boxR R).2.2.2] 58) (w.heap.size + 1) (Array.getElem?_eq_some_iff.1 hp).1).trans hp
         have hn5 := heap_alloc_new w4 (.cells #[.pointer (some ⟨fb, 0, none⟩), .int .i64 (boxR R).1, .int .i64 (boxR R).2.1, .int .i64 (boxR R).2.2.1, .int .i64 (boxR R).2.2.2] 58)
         have hb5 := HB4.out.alloc HB4.out.size (.cells #[.pointer (some ⟨fb, 0, none⟩), .int .i64 (boxR R).1, .int .i64 (boxR R).2.1, .int .i64 (boxR R).2.2.1, .int .i64 (boxR R).2.2.2] 58)
         rw [← hw5] at hp5 hn5 hb5
         have p0 := blk_cell hn5 0
         have p1 := blk_cell hn5 1
         have p2 := blk_cell hn5 2
         have p3 := blk_cell hn5 3
         have p4 := blk_cell hn5 4
         simp at p0 p1 p2 p3 p4
         have q0 := blk_cell hp5 0
         have q1 := blk_cell hp5 1
         have q2 := blk_cell hp5 2
         have q3 := blk_cell hp5 3
         have q4 := blk_cell hp5 4
         simp at q0 q1 q2 q3 q4
         have qf0 := blk_frozen hp5 0
         have qf1 := blk_frozen hp5 1
         have qf2 := blk_frozen hp5 2
         have qf3 := blk_frozen hp5 3
         have qf4 := blk_frozen hp5 4
         have HP5 := Aside0.mk hp5
         have HB5 := Aside0.mk hb5
         clear hp hz hp5 hn5 hb5
         go_upto_region 7 with fail
         rw [← hw5]
         clear hw5
         go_wp2_with fail
         have hq := put5 HP5.out rfl (.pointer (some ⟨fb, 0, none⟩)) (.int .i64 (boxR R).1) (.int .i64 (boxR R).2.1) (.int .i64 (boxR R).2.2.1) (.int .i64 (boxR R).2.2.2)
         have z0 := blk_cell hq 0
         have z1 := blk_cell hq 1
         have z2 := blk_cell hq 2
         have z3 := blk_cell hq 3
         have z4 := blk_cell hq 4
         simp at z0 z1 z2 z3 z4
         refine bodyPost_ret (v := .tuple #[.agg #[.pointer (some ⟨fb, 0, none⟩), .int .i64 (boxR R).1, .int .i64 (boxR R).2.1, .int .i64 (boxR R).2.2.1, .int .i64 (boxR R).2.2.2], .bool true]) (by simp [results, Try.f88, go_sem, z0, z1, z2, z3, z4]) rfl ⟨rfl, ?_⟩
         iterate 5 refine Below.setCell ?_ (by show w.heap.size ≤ _; dsimp only; omega) _
         exact HB5.out
end Go.Proofs.Ytdhnjecbdclmaaa
