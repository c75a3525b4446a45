/- The program's folded at numbers, for SizeCut. -/
import Derived.Test.YtdhnjecbdclmaaaKZFirstM
namespace Go.Proofs.Ytdhnjecbdclmaaa
open Go.RowKit Go.Shelf Go.Proofs.YtdhnjecbdclmaaaW.PrintWords Go.Proofs.YtdhnjecbdclmaaaW.PrintMore
set_option linter.unusedVariables false
def needOf (needs : List Int) (k : Int) : Int := needs.getD k.toNat 0
def NeedsAt (W : World) (nb : Nat) (needs : List Int) : Prop := nb < W.heap.size ∧ ∃ A c, W.cell? ⟨nb, 0, none⟩ = some (.slice A needs.length c) ∧ Kd.C (Kd.int .i64) W A needs.length needs
theorem NeedsAt.below {W W' : World} {nb : Nat} {needs : List Int} (h : NeedsAt W nb needs) (hb : Below W.heap.size W W') : NeedsAt W' nb needs := by
  obtain ⟨h1, A, c, h2, h3⟩ := h
  exact ⟨Nat.lt_of_lt_of_le h1 hb.size, A, c, (hb.cell (p := ⟨nb, 0, none⟩) h1).trans h2, Kd.C_below h3 hb⟩
def joinI (level : Bool) (a b : Int) : Int := if level then max a b else a + b
def sizeL (cl : Nat → Nat → Int) (boxes : List Box) (need : Int → Int) : Nat → Rc → Option Int
  | 0, _ => none
  | n + 1, (r, c, ph, pw) =>
    if (listL boxes (natB r c ph pw) boxes.length).length = 1 then some (need ((listL boxes (natB r c ph pw) boxes.length).headD 0))
    else match (cutsL cl r c ph pw).head? with
      | none => none
      | some x => match sizeL cl boxes need n (oneR r c ph pw x), sizeL cl boxes need n (twoR r c ph pw x) with
        | some a, some b => some (joinI x.1 a b)
        | _, _ => none
theorem needOf_small {needs : List Int} (h : ∀ x ∈ needs, (0 : Int) ≤ x ∧ x ≤ 9) (k : Int) : 0 ≤ needOf needs k ∧ needOf needs k ≤ 9 := by
  unfold needOf
  rw [List.getD_eq_getElem?_getD]
  cases e : needs[k.toNat]? with
  | none => simp
  | some x => exact h x (List.mem_of_getElem? e)
theorem sizeL_bound (cl : Nat → Nat → Int) (boxes : List Box) (needs : List Int) (hn : ∀ x ∈ needs, (0 : Int) ≤ x ∧ x ≤ 9) : ∀ (n : Nat) (R : Rc) (v : Int), sizeL cl boxes (needOf needs) n R = some v → 0 ≤ v ∧ v ≤ 9 * (2 ^ n : Nat) := by
  intro n
  induction n with
  | zero => intro R s h; cases h
  | succ n ih =>
    rintro ⟨r, c, ph, pw⟩ s h
    have h2 : 1 ≤ 2 ^ n := Nat.one_le_two_pow
    unfold sizeL at h
    split at h
    · obtain rfl := Option.some.inj h
      have := needOf_small hn ((listL boxes (natB r c ph pw) boxes.length).headD 0)
      rw [Nat.pow_succ]; omega
    · split at h
      · cases h
      · split at h
        · rename_i ha hb
          obtain rfl := Option.some.inj h
          have := ih _ _ ha
          have := ih _ _ hb
          rw [Nat.pow_succ]
          unfold joinI
          split <;> omega
        · cases h
def sizeV (o : Option Int) : Value := .tuple #[.int .i64 (o.getD 0), .bool o.isSome]
theorem sizeL_one {cl : Nat → Nat → Int} {boxes : List Box} {need : Int → Int} {n r c ph pw : Nat} (h : (listL boxes (natB r c ph pw) boxes.length).length = 1) : sizeL cl boxes need (n + 1) (r, c, ph, pw) = some (need ((listL boxes (natB r c ph pw) boxes.length).headD 0)) := by
  unfold sizeL; rw [if_pos h]
theorem sizeL_none {cl : Nat → Nat → Int} {boxes : List Box} {need : Int → Int} {n r c ph pw : Nat} (h : (listL boxes (natB r c ph pw) boxes.length).length ≠ 1) (hx : (cutsL cl r c ph pw).head? = none) : sizeL cl boxes need (n + 1) (r, c, ph, pw) = none := by
  unfold sizeL; rw [if_neg h, hx]
theorem sizeL_some {cl : Nat → Nat → Int} {boxes : List Box} {need : Int → Int} {n r c ph pw : Nat} (h : (listL boxes (natB r c ph pw) boxes.length).length ≠ 1) {x : Bool × Nat} (hx : (cutsL cl r c ph pw).head? = some x) : sizeL cl boxes need (n + 1) (r, c, ph, pw) = match sizeL cl boxes need n (oneR r c ph pw x), sizeL cl boxes need n (twoR r c ph pw x) with
        | some a, some b => some (joinI x.1 a b)
        | _, _ => none := by
  conv => lhs; unfold sizeL
  rw [if_neg h, hx]
set_option maxHeartbeats 2000000 in
theorem room_any (nb : Nat) (needs : List Int) (k : Nat) (hk : k < needs.length) (w : World) (hn : NeedsAt w nb needs) :
    Calls Try.prog 136 #[.int .i64 (k : Int), .pointer (some ⟨nb, 0, none⟩)] w fun e w' => e = .returned (.int .i64 (needOf needs k)) ∧ Below w.heap.size w w' := by
  obtain ⟨h1, A, c, h2, h3⟩ := hn
  obtain ⟨ad, rfl, g0⟩ := Kd.at_int h3 (k : Int) (by omega) (by omega)
  rw [Int.toNat_natCast] at g0
  have e : rd needs (k : Int) = needOf needs k := rfl
  have n1 : (k : Int) < (needs.length : Int) := by omega
  rw [e] at g0
  clear h3 e hk
  go_enter Try.func136, Try.ntmps136
  go_wp2
  go_ret
  exact ⟨rfl, Below.refl _ _⟩
set_option maxHeartbeats 2000000 in
theorem jointI_any (fb r c ph pw : Nat) (x : Bool × Nat) (a b : Int) (ha : 0 ≤ a ∧ a ≤ 1000000) (hb : 0 ≤ b ∧ b ≤ 1000000) (w : World) :
    Calls Try.prog 138 #[piecesV fb r c ph pw x, .int .i64 a, .int .i64 b] w fun e w' => e = .returned (.int .i64 (joinI x.1 a b)) ∧ Below w.heap.size w w' := by
  obtain ⟨bb, k⟩ := x
  have hs : IntKind.i64.wrap (a + b) = a + b := by rw [IntKind.wrap_i64]; omega
  have hs2 : wrap64 (a + b) = a + b := by unfold wrap64; omega
  unfold piecesV
  cases bb with
  | true =>
    dsimp only
    go_enter Try.func138, Try.ntmps138
    go_wp2
    go_ret
    exact ⟨rfl, (Below.refl _ _).alloc (Nat.le_refl _) _⟩
  | false =>
    dsimp only
    go_enter Try.func138, Try.ntmps138
    go_wp2
    go_ret
    exact ⟨rfl, (Below.refl _ _).alloc (Nat.le_refl _) _⟩
set_option maxRecDepth 100000 in
set_option maxHeartbeats 8000000 in
theorem foldedI_any (fb h wd : Nat) (cl : Nat → Nat → Int) (boxes : List Box) (hh : h ≤ 6) (hwd : wd ≤ 6) (hbs : ∀ x ∈ boxes, BoxIn x) (hn : boxes.length ≤ 9) (nb : Nat) (needs : List Int) (hnl : boxes.length ≤ needs.length) (hn9 : ∀ x ∈ needs, (0 : Int) ≤ x ∧ x ≤ 9) :
    ∀ (n : Nat), n ≤ 13 → ∀ (r c ph pw : Nat), ph + pw < n → r + ph ≤ h → c + pw ≤ wd → ∀ (w : World), FloorR w fb h wd cl boxes → NeedsAt w nb needs →
    Calls Try.prog 137 #[partV fb (natB r c ph pw), .func (.func 136) #[] #[.pointer (some ⟨nb, 0, none⟩)], .func (.func 138) #[] #[]] w fun e w' => e = .returned (sizeV (sizeL cl boxes (needOf needs) n (r, c, ph, pw))) ∧ Below w.heap.size w w' := by
  intro n
  induction n with
  | zero => intro _ r c ph pw h0; omega
  | succ n ih =>
    intro hn13 r c ph pw hlt hr hc w hf hnd
    have HND := Aside0.mk hnd
    have HLI := Aside0.mk (fun W (hW : Below w.heap.size w W) => list_any fb h wd cl boxes W (hf.below hW) (natB r c ph pw) (boxIn_nat (by omega) (by omega) (by omega) (by omega)) hbs (by omega))
    have HFI := Aside0.mk (fun W (hW : Below w.heap.size w W) => first_any fb h wd cl boxes W (hf.below hW) (by omega) (by omega) r c ph pw hr hc _ rfl)
    have HIH := Aside0.mk (fun (R : Rc) (hR : Within r c ph pw R) W (hW : Below w.heap.size w W) => ih (by omega) R.1 R.2.1 R.2.2.1 R.2.2.2 (by have := hR.less; omega) (by have := hR.row; omega) (by have := hR.col; omega) W (hf.below hW) (hnd.below hW))
    clear ih hf hnd
    have HLL := listL_len boxes (natB r c ph pw) boxes.length
    by_cases h1 : (listL boxes (natB r c ph pw) boxes.length).length = 1
    · rw [sizeL_one h1]
      obtain ⟨k0, hk⟩ : ∃ k, listL boxes (natB r c ph pw) boxes.length = [k] := List.length_eq_one_iff.1 h1
      obtain ⟨k, rfl, hkn, _⟩ := listL_mem (show k0 ∈ listL boxes (natB r c ph pw) boxes.length by rw [hk]; simp)
      rw [hk] at HLI ⊢
      clear h1
      have HK := Aside0.mk hk
      clear hk HLL
      simp only [partV, natB, sizeV] at HLI ⊢
      go_enter Try.func137, Try.ntmps137
      go_wp2_with fail
      refine (HLI.out _ ((Below.refl _ _).alloc (Nat.le_refl _) _)).mono ?_
      rintro e w1 ⟨⟨A, c1, rfl, hc1, hC⟩, hb1⟩
      have HB1 := Aside0.mk hb1
      obtain ⟨ad, rfl, g0⟩ := Kd.at_int hC (0 : Int) (by omega) (by simp)
      have g1 : w1.cell? ad = some (.int .i64 (k : Int)) := by simpa [rd, Addr.add] using g0
      clear hb1 hC g0
      simp only [List.length_cons, List.length_nil, Nat.zero_add]
      go_wp2_with fail
      refine (room_any nb needs k (by omega) _ (HND.out.below (((Below.refl _ w).alloc (Nat.le_refl _) _).trans (HB1.out.mono (by simp))))).mono ?_
      rintro e w2 ⟨rfl, hb2⟩
      have HB2 := Aside0.mk hb2
      clear hb2
      go_wp2_with fail
      go_ret2
      exact ⟨rfl, ((Below.refl _ _).alloc (Nat.le_refl _) _).trans ((HB1.out.trans (HB2.out.mono HB1.out.size)).mono (by simp))⟩
    · obtain ⟨m, hm⟩ : ∃ m, (listL boxes (natB r c ph pw) boxes.length).length = m := ⟨_, rfl⟩
      have hm1 : ((m : Int) == 1) = false := by rw [beq_eq_false_iff_ne]; omega
      cases hx : (cutsL cl r c ph pw).head? with
      | none =>
        rw [sizeL_none h1 hx]
        rw [hm] at HLI HLL h1
        rw [hx] at HFI
        have HM := Aside0.mk hm
        have HX := Aside0.mk hx
        clear hm h1 hx HIH
        simp only [partV, natB, sizeV, firstV, noPieces] at HLI HFI ⊢
        go_enter Try.func137, Try.ntmps137
        go_wp2_with fail
        refine (HLI.out _ ((Below.refl _ _).alloc (Nat.le_refl _) _)).mono ?_
        rintro e w1 ⟨⟨A, c1, rfl, hc1, hC⟩, hb1⟩
        have hp := (hb1.block w.heap.size (by simp)).trans (heap_alloc_new w _)
        have p0 := blk_cell hp 0
        have p1 := blk_cell hp 1
        have p2 := blk_cell hp 2
        have p3 := blk_cell hp 3
        have p4 := blk_cell hp 4
        simp at p0 p1 p2 p3 p4
        have HB1 := Aside0.mk (((Below.refl _ w).alloc (Nat.le_refl _) _).trans (hb1.mono (by simp)))
        clear hb1 hC hp
        go_wp2_with fail
        refine (HFI.out _ HB1.out).mono ?_
        rintro e w2 ⟨rfl, hb2⟩
        have HB2 := Aside0.mk (HB1.out.trans (hb2.mono HB1.out.size))
        clear hb2 p0 p1 p2 p3 p4
        go_wp2_with fail
        go_ret2
        exact ⟨rfl, HB2.out.alloc HB2.out.size _⟩
      | some x =>
        rw [sizeL_some h1 hx]
        have hxm := head_in hx
        have H1 := Aside0.mk (HIH.out _ (one_in hxm))
        have H2 := Aside0.mk (HIH.out _ (two_in hxm))
        have l1 := sizeL_bound cl boxes needs hn9 n (oneR r c ph pw x)
        have l2 := sizeL_bound cl boxes needs hn9 n (twoR r c ph pw x)
        have hpow : 2 ^ n ≤ 2 ^ 13 := Nat.pow_le_pow_right (by omega) (by omega)
        rw [hm] at HLI HLL h1
        rw [hx] at HFI
        have HM := Aside0.mk hm
        have HX := Aside0.mk hx
        clear hm h1 hx HIH hxm
        obtain ⟨o1, ho1⟩ : ∃ o, sizeL cl boxes (needOf needs) n (oneR r c ph pw x) = o := ⟨_, rfl⟩
        obtain ⟨o2, ho2⟩ : ∃ o, sizeL cl boxes (needOf needs) n (twoR r c ph pw x) = o := ⟨_, rfl⟩
        have J1 : Aside0 (∀ W, Below w.heap.size w W → Calls Try.prog 137 #[.agg #[.pointer (some ⟨fb, 0, none⟩), .int .i64 (oneB r c ph pw x).1, .int .i64 (oneB r c ph pw x).2.1, .int .i64 (oneB r c ph pw x).2.2.1, .int .i64 (oneB r c ph pw x).2.2.2], .func (.func 136) #[] #[.pointer (some ⟨nb, 0, none⟩)], .func (.func 138) #[] #[]] W fun e w' => e = .returned (sizeV o1) ∧ Below W.heap.size W w') := ⟨fun W hW => by rw [oneB_R, ← ho1]; exact H1.out W hW⟩
        have J2 : Aside0 (∀ W, Below w.heap.size w W → Calls Try.prog 137 #[.agg #[.pointer (some ⟨fb, 0, none⟩), .int .i64 (twoB r c ph pw x).1, .int .i64 (twoB r c ph pw x).2.1, .int .i64 (twoB r c ph pw x).2.2.1, .int .i64 (twoB r c ph pw x).2.2.2], .func (.func 136) #[] #[.pointer (some ⟨nb, 0, none⟩)], .func (.func 138) #[] #[]] W fun e w' => e = .returned (sizeV o2) ∧ Below W.heap.size W w') := ⟨fun W hW => by rw [twoB_R, ← ho2]; exact H2.out W hW⟩
        rw [ho1] at l1 ⊢
        rw [ho2] at l2 ⊢
        clear H1 H2 ho1 ho2
        simp only [partV, natB, firstV, piecesV] at HLI HFI
        unfold partV natB
        dsimp only
        go_enter Try.func137, Try.ntmps137
        go_wp2_with fail
        refine (HLI.out _ ((Below.refl _ _).alloc (Nat.le_refl _) _)).mono ?_
        rintro e w1 ⟨⟨A, c1, rfl, hc1, hC⟩, hb1⟩
        have hp := (hb1.block w.heap.size (by simp)).trans (heap_alloc_new w _)
        have p0 := blk_cell hp 0
        have p1 := blk_cell hp 1
        have p2 := blk_cell hp 2
        have p3 := blk_cell hp 3
        have p4 := blk_cell hp 4
        simp at p0 p1 p2 p3 p4
        have HB1 := Aside0.mk (((Below.refl _ w).alloc (Nat.le_refl _) _).trans (hb1.mono (by simp)))
        clear hb1 hC hp
        go_wp2_with fail
        refine (HFI.out _ HB1.out).mono ?_
        rintro e w2 ⟨rfl, hb2⟩
        have HB2 := Aside0.mk (HB1.out.trans (hb2.mono HB1.out.size))
        clear hb2 p0 p1 p2 p3 p4
        simp only [Option.isSome_some]
        go_wp2_with fail
        have hq0 := heap_alloc_new w2 (.cells #[.bool x.1, .pointer (some ⟨fb, 0, none⟩), .int .i64 (oneB r c ph pw x).1, .int .i64 (oneB r c ph pw x).2.1, .int .i64 (oneB r c ph pw x).2.2.1, .int .i64 (oneB r c ph pw x).2.2.2, .pointer (some ⟨fb, 0, none⟩), .int .i64 (twoB r c ph pw x).1, .int .i64 (twoB r c ph pw x).2.1, .int .i64 (twoB r c ph pw x).2.2.1, .int .i64 (twoB r c ph pw x).2.2.2] 109)
        have HB3 := Aside0.mk (HB2.out.alloc HB2.out.size (.cells #[.bool x.1, .pointer (some ⟨fb, 0, none⟩), .int .i64 (oneB r c ph pw x).1, .int .i64 (oneB r c ph pw x).2.1, .int .i64 (oneB r c ph pw x).2.2.1, .int .i64 (oneB r c ph pw x).2.2.2, .pointer (some ⟨fb, 0, none⟩), .int .i64 (twoB r c ph pw x).1, .int .i64 (twoB r c ph pw x).2.1, .int .i64 (twoB r c ph pw x).2.2.1, .int .i64 (twoB r c ph pw x).2.2.2] 109))
        refine (J1.out _ HB3.out).mono ?_
        rintro e w4 ⟨rfl, hb4⟩
        have hq := (hb4.block w2.heap.size (by simp)).trans hq0
        have HQ4 := Aside0.mk hq
        have q6 := blk_cell hq 6
        have q7 := blk_cell hq 7
        have q8 := blk_cell hq 8
        have q9 := blk_cell hq 9
        have q10 := blk_cell hq 10
        simp at q6 q7 q8 q9 q10
        have HB4 := Aside0.mk (HB3.out.trans (hb4.mono HB3.out.size))
        clear hb4 hq hq0
        unfold sizeV
        go_wp2_with fail
        refine (J2.out _ HB4.out).mono ?_
        rintro e w5 ⟨rfl, hb5⟩
        have hq := (hb5.block w2.heap.size (Array.getElem?_eq_some_iff.1 HQ4.out).1).trans HQ4.out
        clear q6 q7 q8 q9 q10
        have q0 := blk_cell hq 0
        have q1 := blk_cell hq 1
        have q2 := blk_cell hq 2
        have q3 := blk_cell hq 3
        have q4 := blk_cell hq 4
        have q5 := blk_cell hq 5
        have q6 := blk_cell hq 6
        have q7 := blk_cell hq 7
        have q8 := blk_cell hq 8
        have q9 := blk_cell hq 9
        have q10 := blk_cell hq 10
        simp at q0 q1 q2 q3 q4 q5 q6 q7 q8 q9 q10
        have HB5 := Aside0.mk (HB4.out.trans (hb5.mono HB4.out.size))
        clear hb5 hq
        unfold sizeV
        cases o1 with
        | none =>
          simp only [Option.isSome_none, Option.getD_none]
          go_wp2_with fail
          go_ret2
          exact ⟨rfl, HB5.out⟩
        | some a =>
          cases o2 with
          | none =>
            simp only [Option.isSome_none, Option.isSome_some, Option.getD_none, Option.getD_some]
            go_wp2_with fail
            go_ret2
            exact ⟨rfl, HB5.out⟩
          | some b =>
            have ha := l1 a rfl
            have hb := l2 b rfl
            simp only [Option.isSome_some, Option.getD_some]
            have HJ := Aside0.mk (jointI_any fb r c ph pw x a b (by omega) (by omega))
            unfold piecesV at HJ
            clear l1 l2 ha hb hpow
            go_wp2_with fail
            refine (HJ.out _).mono ?_
            rintro e w6 ⟨rfl, hb6⟩
            have HB6 := Aside0.mk (HB5.out.trans (hb6.mono HB5.out.size))
            clear hb6
            go_wp2_with fail
            go_ret2
            exact ⟨rfl, HB6.out⟩
end Go.Proofs.Ytdhnjecbdclmaaa
