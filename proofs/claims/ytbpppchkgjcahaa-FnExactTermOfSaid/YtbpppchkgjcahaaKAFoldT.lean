/- The program's folded at terms, for TermOf. -/
import Derived.Test.YtbpppchkgjcahaaKAFirstM
import Derived.Test.YtbpppchkgjcahaaKAFoursM
namespace Go.Proofs.Ytbpppchkgjcahaa
open Go.RowKit Go.Shelf Go.Proofs.YtbpppchkgjcahaaW.PrintWords Go.Proofs.YtbpppchkgjcahaaW.PrintMore
set_option linter.unusedVariables false
def termL (cl : Nat → Nat → Int) (boxes : List Box) : Nat → Rc → Option Tm
  | 0, _ => none
  | n + 1, (r, c, ph, pw) =>
    if (listL boxes (natB r c ph pw) boxes.length).length = 1 then some .o
    else match (cutsL cl r c ph pw).head? with
      | none => none
      | some x => match termL cl boxes n (oneR r c ph pw x), termL cl boxes n (twoR r c ph pw x) with
        | some a, some b => some (.two x.1 a b)
        | _, _ => none
theorem termL_one {cl : Nat → Nat → Int} {boxes : List Box} {n r c ph pw : Nat} (h : (listL boxes (natB r c ph pw) boxes.length).length = 1) : termL cl boxes (n + 1) (r, c, ph, pw) = some .o := by
  unfold termL; rw [if_pos h]
theorem termL_none {cl : Nat → Nat → Int} {boxes : List Box} {n r c ph pw : Nat} (h : (listL boxes (natB r c ph pw) boxes.length).length ≠ 1) (hx : (cutsL cl r c ph pw).head? = none) : termL cl boxes (n + 1) (r, c, ph, pw) = none := by
  unfold termL; rw [if_neg h, hx]
theorem termL_some {cl : Nat → Nat → Int} {boxes : List Box} {n r c ph pw : Nat} (h : (listL boxes (natB r c ph pw) boxes.length).length ≠ 1) {x : Bool × Nat} (hx : (cutsL cl r c ph pw).head? = some x) : termL cl boxes (n + 1) (r, c, ph, pw) = match termL cl boxes n (oneR r c ph pw x), termL cl boxes n (twoR r c ph pw x) with
        | some a, some b => some (.two x.1 a b)
        | _, _ => none := by
  conv => lhs; unfold termL
  rw [if_neg h, hx]
theorem termL_bound (cl : Nat → Nat → Int) (boxes : List Box) : ∀ (n : Nat) (R : Rc) (t : Tm), termL cl boxes n R = some t → tmMany t ≤ 2 ^ n := by
  intro n
  induction n with
  | zero => intro R s h; cases h
  | succ n ih =>
    rintro ⟨r, c, ph, pw⟩ s h
    have h2 : 1 ≤ 2 ^ n := Nat.one_le_two_pow
    unfold termL at h
    split at h
    · obtain rfl := Option.some.inj h
      rw [Nat.pow_succ]; show 1 ≤ _; omega
    · split at h
      · cases h
      · split at h
        · rename_i ha hb
          obtain rfl := Option.some.inj h
          have := ih _ _ ha
          have := ih _ _ hb
          rw [Nat.pow_succ]
          unfold tmMany; omega
        · cases h
def TermE (e : Ending) (w : World) : Option Tm → Prop
  | none => e = .returned (.tuple #[.pointer none, .bool false])
  | some t => ∃ b, e = .returned (.tuple #[.pointer (some ⟨b, 0, none⟩), .bool true]) ∧ TmAt w b t
set_option maxHeartbeats 2000000 in
theorem roomT_any (k : Nat) (w : World) :
    Calls Try.prog 70 #[.int .i64 (k : Int)] w fun e w' => (∃ b, e = .returned (.pointer (some ⟨b, 0, none⟩)) ∧ TmAt w' b .o) ∧ Below w.heap.size w w' := by
  go_enter Try.func70, Try.ntmps70
  go_wp2
  go_ret
  exact ⟨⟨_, rfl, heap_alloc_new w _⟩, (Below.refl _ _).alloc (Nat.le_refl _) _⟩
theorem two_at (w1 : World) (m a b : Nat) (s t : Tm) (lv : Bool) (hm : w1.heap.size = m) (hs : TmAt w1 a s) (ht : TmAt w1 b t) :
    TmAt ((w1.alloc (.cells #[.pointer (some ⟨a, 0, none⟩), .pointer (some ⟨b, 0, none⟩)] 69)).alloc (.cells #[.int .u8 (if lv then 45 else 124), .slice (some ⟨m, 0, none⟩) 2 2] 79)) (m + 1) (.two lv s t) := by
  subst hm
  have hb1 : Below w1.heap.size w1 (w1.alloc (.cells #[.pointer (some ⟨a, 0, none⟩), .pointer (some ⟨b, 0, none⟩)] 69)) := (Below.refl _ _).alloc (Nat.le_refl _) _
  have hb2 : Below w1.heap.size w1 ((w1.alloc (.cells #[.pointer (some ⟨a, 0, none⟩), .pointer (some ⟨b, 0, none⟩)] 69)).alloc (.cells #[.int .u8 (if lv then 45 else 124), .slice (some ⟨w1.heap.size, 0, none⟩) 2 2] 79)) := hb1.alloc hb1.size _
  have h1 := heap_alloc_new w1 (.cells #[.pointer (some ⟨a, 0, none⟩), .pointer (some ⟨b, 0, none⟩)] 69)
  have h2 := heap_alloc_new (w1.alloc (.cells #[.pointer (some ⟨a, 0, none⟩), .pointer (some ⟨b, 0, none⟩)] 69)) (.cells #[.int .u8 (if lv then 45 else 124), .slice (some ⟨w1.heap.size, 0, none⟩) 2 2] 79)
  rw [show (w1.alloc (.cells #[.pointer (some ⟨a, 0, none⟩), .pointer (some ⟨b, 0, none⟩)] 69)).heap.size = w1.heap.size + 1 by simp] at h2
  have h3 := (Below.heap_alloc (w1.alloc (.cells #[.pointer (some ⟨a, 0, none⟩), .pointer (some ⟨b, 0, none⟩)] 69)) (.cells #[.int .u8 (if lv then 45 else 124), .slice (some ⟨w1.heap.size, 0, none⟩) 2 2] 79) w1.heap.size (by simp)).trans h1
  refine ⟨w1.heap.size, a, b, h2, ?_, ?_, by simp; omega, hs.below hb2, ht.below hb2⟩
  · rw [Lib.cell_of_heap h3]; rfl
  · rw [Lib.cell_of_heap h3]; rfl
set_option maxHeartbeats 2000000 in
theorem jointT_any (fb r c ph pw : Nat) (x : Bool × Nat) (a b : Nat) (s t : Tm) (w : World) (hs : TmAt w a s) (ht : TmAt w b t) :
    Calls Try.prog 71 #[piecesV fb r c ph pw x, .pointer (some ⟨a, 0, none⟩), .pointer (some ⟨b, 0, none⟩)] w fun e w' => (∃ d, e = .returned (.pointer (some ⟨d, 0, none⟩)) ∧ TmAt w' d (.two x.1 s t)) ∧ Below w.heap.size w w' := by
  obtain ⟨bb, k⟩ := x
  have HS := Aside0.mk hs
  have HT := Aside0.mk ht
  clear hs ht
  unfold piecesV
  cases bb with
  | true =>
    dsimp only
    go_enter Try.func71, Try.ntmps71
    go_wp2
    go_ret
    exact ⟨⟨_, rfl, two_at _ (w.heap.size + 1) a b s t true (by simp) (HS.out.below ((Below.refl _ _).alloc (Nat.le_refl _) _)) (HT.out.below ((Below.refl _ _).alloc (Nat.le_refl _) _))⟩, (((Below.refl _ _).alloc (Nat.le_refl _) _).alloc (by simp) _).alloc (by simp; omega) _⟩
  | false =>
    dsimp only
    go_enter Try.func71, Try.ntmps71
    go_wp2
    go_ret
    exact ⟨⟨_, rfl, two_at _ (w.heap.size + 1) a b s t false (by simp) (HS.out.below ((Below.refl _ _).alloc (Nat.le_refl _) _)) (HT.out.below ((Below.refl _ _).alloc (Nat.le_refl _) _))⟩, (((Below.refl _ _).alloc (Nat.le_refl _) _).alloc (by simp) _).alloc (by simp; omega) _⟩
set_option maxRecDepth 100000 in
set_option maxHeartbeats 8000000 in
theorem foldedT_any (fb h wd : Nat) (cl : Nat → Nat → Int) (boxes : List Box) (hh : h ≤ 6) (hwd : wd ≤ 6) (hbs : ∀ x ∈ boxes, BoxIn x) (hn : boxes.length ≤ 9) :
    ∀ (n : Nat), n ≤ 13 → ∀ (r c ph pw : Nat), ph + pw < n → r + ph ≤ h → c + pw ≤ wd → ∀ (w : World), FloorR w fb h wd cl boxes →
    Calls Try.prog 68 #[partV fb (natB r c ph pw), .func (.func 70) #[] #[], .func (.func 71) #[] #[]] w fun e w' => TermE e w' (termL cl boxes n (r, c, ph, pw)) ∧ Below w.heap.size w w' := by
  intro n
  induction n with
  | zero => intro _ r c ph pw h0; omega
  | succ n ih =>
    intro hn13 r c ph pw hlt hr hc w hf
    have HLI := Aside0.mk (fun W (hW : Below w.heap.size w W) => list_any fb h wd cl boxes W (hf.below hW) (natB r c ph pw) (boxIn_nat (by omega) (by omega) (by omega) (by omega)) hbs (by omega))
    have HFI := Aside0.mk (fun W (hW : Below w.heap.size w W) => first_any fb h wd cl boxes W (hf.below hW) (by omega) (by omega) r c ph pw hr hc _ rfl)
    have HIH := Aside0.mk (fun (R : Rc) (hR : Within r c ph pw R) W (hW : Below w.heap.size w W) => ih (by omega) R.1 R.2.1 R.2.2.1 R.2.2.2 (by have := hR.less; omega) (by have := hR.row; omega) (by have := hR.col; omega) W (hf.below hW))
    clear ih hf
    have HLL := listL_len boxes (natB r c ph pw) boxes.length
    by_cases h1 : (listL boxes (natB r c ph pw) boxes.length).length = 1
    · rw [termL_one h1]
      obtain ⟨k0, hk⟩ : ∃ k, listL boxes (natB r c ph pw) boxes.length = [k] := List.length_eq_one_iff.1 h1
      obtain ⟨k, rfl, hkn, _⟩ := listL_mem (show k0 ∈ listL boxes (natB r c ph pw) boxes.length by rw [hk]; simp)
      rw [hk] at HLI
      clear h1
      have HK := Aside0.mk hk
      clear hk HLL
      simp only [partV, natB] at HLI ⊢
      go_enter Try.func68, Try.ntmps68
      go_wp2_with fail
      refine (HLI.out _ ((Below.refl _ _).alloc (Nat.le_refl _) _)).mono ?_
      rintro e w1 ⟨⟨A, c1, rfl, hc1, hC⟩, hb1⟩
      have HB1 := Aside0.mk hb1
      obtain ⟨ad, rfl, g0⟩ := Kd.at_int hC (0 : Int) (by omega) (by simp)
      have g1 : w1.cell? ad = some (.int .i64 (k : Int)) := by simpa [rd, Addr.add] using g0
      clear hb1 hC g0
      simp only [List.length_cons, List.length_nil, Nat.zero_add]
      go_wp2_with fail
      refine (roomT_any k _).mono ?_
      rintro e w2 ⟨⟨b2, rfl, ht2⟩, hb2⟩
      have HB2 := Aside0.mk hb2
      have HT2 := Aside0.mk ht2
      clear hb2 ht2
      go_wp2_with fail
      go_ret2
      exact ⟨⟨b2, rfl, HT2.out⟩, ((Below.refl _ _).alloc (Nat.le_refl _) _).trans ((HB1.out.trans (HB2.out.mono HB1.out.size)).mono (by simp))⟩
    · obtain ⟨m, hm⟩ : ∃ m, (listL boxes (natB r c ph pw) boxes.length).length = m := ⟨_, rfl⟩
      have hm1 : ((m : Int) == 1) = false := by rw [beq_eq_false_iff_ne]; omega
      cases hx : (cutsL cl r c ph pw).head? with
      | none =>
        rw [termL_none h1 hx]
        rw [hm] at HLI HLL h1
        rw [hx] at HFI
        have HM := Aside0.mk hm
        have HX := Aside0.mk hx
        clear hm h1 hx HIH
        simp only [partV, natB, firstV, noPieces] at HLI HFI ⊢
        go_enter Try.func68, Try.ntmps68
        go_wp2_with fail
        refine (HLI.out _ ((Below.refl _ _).alloc (Nat.le_refl _) _)).mono ?_
        rintro e w1 ⟨⟨A, c1, rfl, hc1, hC⟩, hb1⟩
        have hp := (hb1.block w.heap.size (by simp)).trans (heap_alloc_new w _)
        have p0 := blk_cell hp 0
        have p1 := blk_cell hp 1
        have p2 := blk_cell hp 2
        have p3 := blk_cell hp 3
        have p4 := blk_cell hp 4
        simp at p0 p1 p2 p3 p4
        have HB1 := Aside0.mk (((Below.refl _ w).alloc (Nat.le_refl _) _).trans (hb1.mono (by simp)))
        clear hb1 hC hp
        go_wp2_with fail
        refine (HFI.out _ HB1.out).mono ?_
        rintro e w2 ⟨rfl, hb2⟩
        have HB2 := Aside0.mk (HB1.out.trans (hb2.mono HB1.out.size))
        clear hb2 p0 p1 p2 p3 p4
        go_wp2_with fail
        go_ret2
        exact ⟨rfl, HB2.out.alloc HB2.out.size _⟩
      | some x =>
        rw [termL_some h1 hx]
        have hxm := head_in hx
        have H1 := Aside0.mk (HIH.out _ (one_in hxm))
        have H2 := Aside0.mk (HIH.out _ (two_in hxm))
        rw [hm] at HLI HLL h1
        rw [hx] at HFI
        have HM := Aside0.mk hm
        have HX := Aside0.mk hx
        clear hm h1 hx HIH hxm
        obtain ⟨o1, ho1⟩ : ∃ o, termL cl boxes n (oneR r c ph pw x) = o := ⟨_, rfl⟩
        obtain ⟨o2, ho2⟩ : ∃ o, termL cl boxes n (twoR r c ph pw x) = o := ⟨_, rfl⟩
        have J1 : Aside0 (∀ W, Below w.heap.size w W → Calls Try.prog 68 #[.agg #[.pointer (some ⟨fb, 0, none⟩), .int .i64 (oneB r c ph pw x).1, .int .i64 (oneB r c ph pw x).2.1, .int .i64 (oneB r c ph pw x).2.2.1, .int .i64 (oneB r c ph pw x).2.2.2], .func (.func 70) #[] #[], .func (.func 71) #[] #[]] W fun e w' => TermE e w' o1 ∧ Below W.heap.size W w') := ⟨fun W hW => by rw [oneB_R, ← ho1]; exact H1.out W hW⟩
        have J2 : Aside0 (∀ W, Below w.heap.size w W → Calls Try.prog 68 #[.agg #[.pointer (some ⟨fb, 0, none⟩), .int .i64 (twoB r c ph pw x).1, .int .i64 (twoB r c ph pw x).2.1, .int .i64 (twoB r c ph pw x).2.2.1, .int .i64 (twoB r c ph pw x).2.2.2], .func (.func 70) #[] #[], .func (.func 71) #[] #[]] W fun e w' => TermE e w' o2 ∧ Below W.heap.size W w') := ⟨fun W hW => by rw [twoB_R, ← ho2]; exact H2.out W hW⟩
        rw [ho1, ho2]
        clear H1 H2 ho1 ho2
        simp only [partV, natB, firstV, piecesV] at HLI HFI
        unfold partV natB
        dsimp only
        go_enter Try.func68, Try.ntmps68
        go_wp2_with fail
        refine (HLI.out _ ((Below.refl _ _).alloc (Nat.le_refl _) _)).mono ?_
        rintro e w1 ⟨⟨A, c1, rfl, hc1, hC⟩, hb1⟩
        have hp := (hb1.block w.heap.size (by simp)).trans (heap_alloc_new w _)
        have p0 := blk_cell hp 0
        have p1 := blk_cell hp 1
        have p2 := blk_cell hp 2
        have p3 := blk_cell hp 3
        have p4 := blk_cell hp 4
        simp at p0 p1 p2 p3 p4
        have HB1 := Aside0.mk (((Below.refl _ w).alloc (Nat.le_refl _) _).trans (hb1.mono (by simp)))
        clear hb1 hC hp
        go_wp2_with fail
        refine (HFI.out _ HB1.out).mono ?_
        rintro e w2 ⟨rfl, hb2⟩
        have HB2 := Aside0.mk (HB1.out.trans (hb2.mono HB1.out.size))
        clear hb2 p0 p1 p2 p3 p4
        simp only [Option.isSome_some]
        go_wp2_with fail
        have hq0 := heap_alloc_new w2 (.cells #[.bool x.1, .pointer (some ⟨fb, 0, none⟩), .int .i64 (oneB r c ph pw x).1, .int .i64 (oneB r c ph pw x).2.1, .int .i64 (oneB r c ph pw x).2.2.1, .int .i64 (oneB r c ph pw x).2.2.2, .pointer (some ⟨fb, 0, none⟩), .int .i64 (twoB r c ph pw x).1, .int .i64 (twoB r c ph pw x).2.1, .int .i64 (twoB r c ph pw x).2.2.1, .int .i64 (twoB r c ph pw x).2.2.2] 82)
        have HB3 := Aside0.mk (HB2.out.alloc HB2.out.size (.cells #[.bool x.1, .pointer (some ⟨fb, 0, none⟩), .int .i64 (oneB r c ph pw x).1, .int .i64 (oneB r c ph pw x).2.1, .int .i64 (oneB r c ph pw x).2.2.1, .int .i64 (oneB r c ph pw x).2.2.2, .pointer (some ⟨fb, 0, none⟩), .int .i64 (twoB r c ph pw x).1, .int .i64 (twoB r c ph pw x).2.1, .int .i64 (twoB r c ph pw x).2.2.1, .int .i64 (twoB r c ph pw x).2.2.2] 82))
        refine (J1.out _ HB3.out).mono ?_
        rintro e w4 ⟨hE1, hb4⟩
        have hq := (hb4.block w2.heap.size (by simp)).trans hq0
        have HQ4 := Aside0.mk hq
        have q6 := blk_cell hq 6
        have q7 := blk_cell hq 7
        have q8 := blk_cell hq 8
        have q9 := blk_cell hq 9
        have q10 := blk_cell hq 10
        simp at q6 q7 q8 q9 q10
        have HB4 := Aside0.mk (HB3.out.trans (hb4.mono HB3.out.size))
        clear hb4 hq hq0
        have hE1' : ∃ v1 : Option Addr, e = .returned (.tuple #[.pointer v1, .bool o1.isSome]) ∧ ∀ s, o1 = some s → ∃ b, v1 = some ⟨b, 0, none⟩ ∧ TmAt w4 b s := by
          cases o1 with
          | none => exact ⟨none, hE1, fun s h => by cases h⟩
          | some s => obtain ⟨b, rfl, h⟩ := hE1; exact ⟨_, rfl, fun s' h' => by obtain rfl := Option.some.inj h'; exact ⟨b, rfl, h⟩⟩
        clear hE1
        obtain ⟨v1, rfl, K1⟩ := hE1'
        have HK1 := Aside0.mk K1
        clear K1
        go_wp2_with fail
        refine (J2.out _ HB4.out).mono ?_
        rintro e w5 ⟨hE2, hb5⟩
        have hE2' : ∃ v2 : Option Addr, e = .returned (.tuple #[.pointer v2, .bool o2.isSome]) ∧ ∀ s, o2 = some s → ∃ b, v2 = some ⟨b, 0, none⟩ ∧ TmAt w5 b s := by
          cases o2 with
          | none => exact ⟨none, hE2, fun s h => by cases h⟩
          | some s => obtain ⟨b, rfl, h⟩ := hE2; exact ⟨_, rfl, fun s' h' => by obtain rfl := Option.some.inj h'; exact ⟨b, rfl, h⟩⟩
        clear hE2
        obtain ⟨v2, rfl, K2⟩ := hE2'
        have HK2 := Aside0.mk K2
        clear K2
        have HK15 : Aside0 (∀ s, o1 = some s → ∃ b, v1 = some ⟨b, 0, none⟩ ∧ TmAt w5 b s) := ⟨fun s hs => by
          obtain ⟨b, h1, h2⟩ := HK1.out s hs
          exact ⟨b, h1, h2.below hb5⟩⟩
        have hq := (hb5.block w2.heap.size (Array.getElem?_eq_some_iff.1 HQ4.out).1).trans HQ4.out
        clear q6 q7 q8 q9 q10
        have q0 := blk_cell hq 0
        have q1 := blk_cell hq 1
        have q2 := blk_cell hq 2
        have q3 := blk_cell hq 3
        have q4 := blk_cell hq 4
        have q5 := blk_cell hq 5
        have q6 := blk_cell hq 6
        have q7 := blk_cell hq 7
        have q8 := blk_cell hq 8
        have q9 := blk_cell hq 9
        have q10 := blk_cell hq 10
        simp at q0 q1 q2 q3 q4 q5 q6 q7 q8 q9 q10
        have HB5 := Aside0.mk (HB4.out.trans (hb5.mono HB4.out.size))
        clear hb5 hq HK1
        cases o1 with
        | none =>
          simp only [Option.isSome_none]
          go_wp2_with fail
          go_ret2
          exact ⟨rfl, HB5.out⟩
        | some s1 =>
          cases o2 with
          | none =>
            simp only [Option.isSome_none, Option.isSome_some]
            go_wp2_with fail
            go_ret2
            exact ⟨rfl, HB5.out⟩
          | some s2 =>
            obtain ⟨b1, rfl, t1⟩ := HK15.out s1 rfl
            obtain ⟨b2, rfl, t2⟩ := HK2.out s2 rfl
            simp only [Option.isSome_some]
            have HJ := Aside0.mk (jointT_any fb r c ph pw x b1 b2 s1 s2 w5 t1 t2)
            unfold piecesV at HJ
            clear HK15 HK2 t1 t2
            go_wp2_with fail
            refine HJ.out.mono ?_
            rintro e w6 ⟨⟨b6, rfl, t6⟩, hb6⟩
            have HB6 := Aside0.mk (HB5.out.trans (hb6.mono HB5.out.size))
            have HT6 := Aside0.mk t6
            clear hb6 t6
            go_wp2_with fail
            go_ret2
            exact ⟨⟨b6, rfl, HT6.out⟩, HB6.out⟩
end Go.Proofs.Ytbpppchkgjcahaa
