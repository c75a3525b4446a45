/- The program's ways. -/
import Derived.Test.YtdhnjecbdclmaaaKYCodeRowM
import Derived.IntWalk
namespace Go.Proofs.Ytdhnjecbdclmaaa
open Go.RowKit Go.Shelf Go.Proofs.YtdhnjecbdclmaaaW.PrintWords Go.Proofs.YtdhnjecbdclmaaaW.PrintMore
attribute [local go_sem] Oper.semAt_some
set_option linter.unusedVariables false
set_option linter.unusedSimpArgs false
theorem wrap_sum {s a b : Nat} (h : s + a * b ≤ 1000000000) : ((s + a * b : Nat) : Int) = IntKind.i64.wrap ((s : Int) + IntKind.i64.wrap ((a : Int) * (b : Int))) := by
  have e : (a : Int) * (b : Int) = ((a * b : Nat) : Int) := by push_cast; rfl
  rw [e]
  generalize a * b = m at *
  rw [show IntKind.i64.wrap (m : Int) = (m : Int) from IntWalk.i64_in _ (by omega), show IntKind.i64.wrap ((s : Int) + (m : Int)) = (s : Int) + (m : Int) from IntWalk.i64_in _ (by omega)]
  push_cast; rfl
theorem ret_plain2 {P : Program} {fn : Func} {R : Ending → World → Prop} {tmps : Array Value} {W : World} (h : ∃ v, (results fn tmps).run P W = .ok v W ∧ R (.returned v) W) :
    bodyPostM Fence.wide 0 P fn R .ret { tmps, defers := [] } W := h
set_option maxRecDepth 100000 in
set_option maxHeartbeats 8000000 in
theorem ways_any (fb h wd : Nat) (cl : Nat → Nat → Int) (boxes : List Box) (f : Flat cl boxes h wd) (hbs : ∀ x ∈ boxes, BoxIn x) :
    ∀ (n : Nat), n ≤ 13 → ∀ (r c ph pw : Nat), ph + pw < n → Whole cl h wd r c ph pw → ∀ (w : World), FloorR w fb h wd cl boxes →
    Calls Try.prog 146 #[partV fb (natB r c ph pw)] w fun e w' => e = .returned (.int .i64 (waysN cl boxes n (r, c, ph, pw) : Nat)) ∧ Below w.heap.size w w' := by
  intro n
  induction n with
  | zero => intro _ r c ph pw h0; omega
  | succ n ih =>
    intro hn13 r c ph pw hlt hwh w hf
    have hh := f.high
    have hwd := f.wide
    have hr := hwh.row
    have hc := hwh.col
    have hfew := f.few
    have HAL := Aside0.mk (fun W (hW : Below w.heap.size w W) => alone_any fb h wd cl boxes W (hf.below hW) (natB r c ph pw) (boxIn_nat (by omega) (by omega) (by omega) (by omega)) hbs (by omega))
    have HIH := Aside0.mk (fun x (hx : x ∈ cutsL cl r c ph pw) W (hW : Below w.heap.size w W) => And.intro (ih (by omega) (oneR r c ph pw x).1 (oneR r c ph pw x).2.1 (oneR r c ph pw x).2.2.1 (oneR r c ph pw x).2.2.2 (by have := (one_in hx).less; omega) (whole_parts f hwh hx).1 W (hf.below hW)) (ih (by omega) (twoR r c ph pw x).1 (twoR r c ph pw x).2.1 (twoR r c ph pw x).2.2.1 (twoR r c ph pw x).2.2.2 (by have := (two_in hx).less; omega) (whole_parts f hwh hx).2 W (hf.below hW)))
    have HF := Aside0.mk hf
    have HW := Aside0.mk hwh
    have HFL := Aside0.mk f
    clear ih hf
    by_cases h1 : (listL boxes (natB r c ph pw) boxes.length).length = 1
    · have hb1 : ((((listL boxes (natB r c ph pw) boxes.length).length : Nat) : Int) == 1) = true := by rw [beq_iff_eq]; omega
      have hv : waysN cl boxes (n + 1) (r, c, ph, pw) = 1 := by unfold waysN; rw [if_pos h1]
      rw [hb1] at HAL
      rw [hv]
      clear h1 hb1 hv
      refine calls_of_wp_marks Try.func146 rfl ?_
      simp only [partV, natB] at HAL ⊢
      simp only [Try.ntmps146, List.size_toArray, List.length_cons, List.length_nil, Nat.reduceAdd, Nat.reduceSub, Array.replicate_succ, Array.replicate_zero, List.push_toArray, List.append_toArray, List.nil_append, List.cons_append]
      go_wp2_with fail
      refine (HAL.out _ ((Below.refl _ _).alloc (Nat.le_refl _) _)).mono ?_
      rintro e w1 ⟨rfl, hb1⟩
      have HB1 := Aside0.mk (((Below.refl _ w).alloc (Nat.le_refl _) _).trans (hb1.mono (by simp)))
      clear hb1
      go_wp2_with fail
      refine ret_plain2 ⟨.int .i64 1, by simp [results, Try.f146, go_sem], rfl, HB1.out⟩
    · have hb1 : ((((listL boxes (natB r c ph pw) boxes.length).length : Nat) : Int) == 1) = false := by rw [beq_eq_false_iff_ne]; omega
      have hv : waysN cl boxes (n + 1) (r, c, ph, pw) = waysSum cl boxes n r c ph pw (cutsL cl r c ph pw) := by unfold waysN; rw [if_neg h1]; rfl
      rw [hb1] at HAL
      have HV := Aside0.mk hv
      clear h1 hb1 hv
      refine calls_of_wp_marks Try.func146 rfl ?_
      simp only [partV, natB] at HAL ⊢
      simp only [Try.ntmps146, List.size_toArray, List.length_cons, List.length_nil, Nat.reduceAdd, Nat.reduceSub, Array.replicate_succ, Array.replicate_zero, List.push_toArray, List.append_toArray, List.nil_append, List.cons_append]
      go_wp2_with fail
      refine (HAL.out _ ((Below.refl _ _).alloc (Nat.le_refl _) _)).mono ?_
      rintro e w1 ⟨rfl, hb1⟩
      have hp := (hb1.block w.heap.size (by simp)).trans (heap_alloc_new w _)
      have p0 := blk_cell hp 0
      have p1 := blk_cell hp 1
      have p2 := blk_cell hp 2
      have p3 := blk_cell hp 3
      have p4 := blk_cell hp 4
      simp at p0 p1 p2 p3 p4
      have HB1 := Aside0.mk (((Below.refl _ w).alloc (Nat.le_refl _) _).trans (hb1.mono (by simp)))
      have hlt1 : w.heap.size < w1.heap.size := (Array.getElem?_eq_some_iff.1 hp).1
      clear hb1 hp
      go_wp2_with fail
      have hB0 := HB1.out.alloc HB1.out.size (.cells #[.int .i64 0] 3)
      have hS0 := Boxed.new w1 3 (.int .i64 0)
      have hz1 := HB1.out.size
      have HZ1 := Aside0.mk hz1
      refine (cuts_any fb (natB r c ph pw) _).mono ?_
      rintro e w' ⟨rfl, rfl⟩
      simp only [partCells, natB]
      go_wp2_with fail
      obtain ⟨W0, hW0⟩ : ∃ W0, w1.alloc (.cells #[.int .i64 0] 3) = W0 := ⟨_, rfl⟩
      have hsz0 : W0.heap.size = w1.heap.size + 1 := by rw [← hW0]; simp
      rw [hW0] at hB0 hS0 ⊢
      have HS0 := Aside0.mk hsz0
      have HSB := Aside0.mk hS0
      have hB2 := hB0.alloc hB0.size (.cells #[.pointer (some ⟨fb, 0, none⟩), .int .i64 r, .int .i64 c, .int .i64 ph, .int .i64 pw] 58)
      have HB2 := Aside0.mk hB2
      clear hW0 hsz0 hS0 p0 p1 p2 p3 p4 hB0 hz1
      refine wp_range_ro (gf := 204) (lb := #[.pointer (some ⟨W0.heap.size, 0, none⟩)]) rfl (enters_of Try.func204 (by kernel_rfl) rfl)
        (cuts1_iter fb h wd cl boxes r c ph pw W0.heap.size w.heap.size (fun k => k = w1.heap.size) (fun k e => by have := HZ1.out; omega) (by have := HS0.out; omega) w _ rfl HB2.out HF.out (by omega) (by omega) hr hc (heap_alloc_new W0 _)) (Below.refl _ _) (fun _ => rfl)
        (fun pre W => Boxed W w1.heap.size 3 (.int .i64 (waysSum cl boxes n r c ph pw pre : Nat)))
        (fun pre W => False)
        (fun s X Y h hc => hc.boxed h) (fun s X Y h hc => h)
        (HSB.out.alloc _) ?round ?done ?stop
      case round =>
        rintro l pre x W hpre hbt hbW
        have hxm : x ∈ cutsL cl r c ph pw := hpre.subset (by simp)
        have hlt : W0.heap.size + 1 ≤ W.heap.size := by have h1 := hbW.size; rw [World.size_alloc] at h1; omega
        obtain ⟨hI1, hI2⟩ := (fun W hW => HIH.out x hxm W hW : ∀ W, Below w.heap.size w W → _) |> fun g => And.intro (fun W hW => (g W hW).1) (fun W hW => (g W hW).2)
        obtain ⟨na, hna⟩ : ∃ a, waysN cl boxes n (oneR r c ph pw x) = a := ⟨_, rfl⟩
        obtain ⟨nb, hnb⟩ : ∃ a, waysN cl boxes n (twoR r c ph pw x) = a := ⟨_, rfl⟩
        have HONE : Aside0 (∀ W, Below w.heap.size w W → Calls Try.prog 146 #[.agg #[.pointer (some ⟨fb, 0, none⟩), .int .i64 (oneB r c ph pw x).1, .int .i64 (oneB r c ph pw x).2.1, .int .i64 (oneB r c ph pw x).2.2.1, .int .i64 (oneB r c ph pw x).2.2.2]] W fun e w' => e = .returned (.int .i64 (na : Nat)) ∧ Below W.heap.size W w') := ⟨fun W hW => by rw [oneB_R, ← hna]; exact hI1 W hW⟩
        have HTWO : Aside0 (∀ W, Below w.heap.size w W → Calls Try.prog 146 #[.agg #[.pointer (some ⟨fb, 0, none⟩), .int .i64 (twoB r c ph pw x).1, .int .i64 (twoB r c ph pw x).2.1, .int .i64 (twoB r c ph pw x).2.2.1, .int .i64 (twoB r c ph pw x).2.2.2]] W fun e w' => e = .returned (.int .i64 (nb : Nat)) ∧ Below W.heap.size W w') := ⟨fun W hW => by rw [twoB_R, ← hnb]; exact hI2 W hW⟩
        have hsn := waysSum_snoc cl boxes n r c ph pw pre x
        rw [hna, hnb] at hsn
        have hs1 := waysSum_pre HFL.out n r c ph pw HW.out hpre
        rw [hsn] at hs1
        obtain ⟨s, hs⟩ : ∃ s, waysSum cl boxes n r c ph pw pre = s := ⟨_, rfl⟩
        rw [hs] at hbt hsn hs1
        have HSN := Aside0.mk hsn
        have HS1 := Aside0.mk hs1
        have HBT := Aside0.mk hbt
        have HLT := Aside0.mk hlt
        have HKW := Aside0.mk hbW
        clear hI1 hI2 hna hnb hsn hs1 hs hbt hlt hpre hxm hbW
        simp only [piecesV]
        gi_wp2
        refine ⟨(Rd.refl _ _ _).alloc (by have := HLT.out; simp; omega) _, fun W2 hcc hb2 => ?_⟩
        have hq2 := hcc.boxed (HBT.out.alloc _)
        have hnb := hcc.same W.heap.size _ (World.alloc_heap_new W _) rfl
        have hbe2 : Below w.heap.size w W2 := HB2.out.trans (hb2.below (m := w.heap.size) (fun k e => by have := HZ1.out; omega) (by have := HS0.out; have := HZ1.out; simp; omega))
        have hl2 : W.heap.size < W2.heap.size := (Array.getElem?_eq_some_iff.1 hnb).1
        have HQ := Aside0.mk (show Boxed W2.drew w1.heap.size 3 (.int .i64 (s : Nat)) from hq2)
        have HN0 : Aside0 ((W0.alloc (.cells #[.pointer (some ⟨fb, 0, none⟩), .int .i64 r, .int .i64 c, .int .i64 ph, .int .i64 pw] 58)).heap.size ≤ W2.heap.size) := ⟨by have := HLT.out; simp; omega⟩
        have HRD : Aside0 (Rd (W0.alloc (.cells #[.pointer (some ⟨fb, 0, none⟩), .int .i64 r, .int .i64 c, .int .i64 ph, .int .i64 pw] 58)).heap.size (fun k => k = w1.heap.size) W2 W2.drew) := ⟨(Rd.refl _ _ _).drew⟩
        obtain ⟨S, hS⟩ : ∃ S : World → Prop, S = (fun w' => Aside0 (w'.heap[W.heap.size]? = some (.cells (piecesCells fb r c ph pw x) 109 (0, 0)) ∧ Below w.heap.size w w' ∧ W.heap.size < w'.heap.size) ∧ w'.cell? ⟨W.heap.size, 1, none⟩ = some (Value.pointer (some ⟨fb, 0, none⟩)) ∧ w'.cell? ⟨W.heap.size, 2, none⟩ = some (Value.int .i64 (oneB r c ph pw x).1) ∧ w'.cell? ⟨W.heap.size, 3, none⟩ = some (Value.int .i64 (oneB r c ph pw x).2.1) ∧ w'.cell? ⟨W.heap.size, 4, none⟩ = some (Value.int .i64 (oneB r c ph pw x).2.2.1) ∧ w'.cell? ⟨W.heap.size, 5, none⟩ = some (Value.int .i64 (oneB r c ph pw x).2.2.2) ∧ w'.cell? ⟨W.heap.size, 6, none⟩ = some (Value.pointer (some ⟨fb, 0, none⟩)) ∧ w'.cell? ⟨W.heap.size, 7, none⟩ = some (Value.int .i64 (twoB r c ph pw x).1) ∧ w'.cell? ⟨W.heap.size, 8, none⟩ = some (Value.int .i64 (twoB r c ph pw x).2.1) ∧ w'.cell? ⟨W.heap.size, 9, none⟩ = some (Value.int .i64 (twoB r c ph pw x).2.2.1) ∧ w'.cell? ⟨W.heap.size, 10, none⟩ = some (Value.int .i64 (twoB r c ph pw x).2.2.2)) := ⟨_, rfl⟩
        have SMK : ∀ A : World, A.heap[W.heap.size]? = some (.cells (piecesCells fb r c ph pw x) 109 (0, 0)) → Below w.heap.size w A → W.heap.size < A.heap.size → S A := fun A hb0 hb1 hb2 => by
          rw [hS]
          exact ⟨⟨hb0, hb1, hb2⟩, (blk_cell hb0 1).trans rfl, (blk_cell hb0 2).trans rfl, (blk_cell hb0 3).trans rfl, (blk_cell hb0 4).trans rfl, (blk_cell hb0 5).trans rfl, (blk_cell hb0 6).trans rfl, (blk_cell hb0 7).trans rfl, (blk_cell hb0 8).trans rfl, (blk_cell hb0 9).trans rfl, (blk_cell hb0 10).trans rfl⟩
        have SBLK : ∀ A : World, S A → A.heap[W.heap.size]? = some (.cells (piecesCells fb r c ph pw x) 109 (0, 0)) ∧ Below w.heap.size w A ∧ W.heap.size < A.heap.size := fun A h => by rw [hS] at h; exact h.1.out
        have SKEEP : ∀ A B : World, S A → Below A.heap.size A B → S B := fun A B h hb => by
          obtain ⟨h1, h2, h3⟩ := SBLK A h
          exact SMK B ((hb.block _ h3).trans h1) (h2.trans (hb.mono h2.size)) (Nat.lt_of_lt_of_le h3 hb.size)
        have SSET : ∀ (A : World) (v : Value), S A → S (A.setCell ⟨w1.heap.size, 0, none⟩ v) := fun A v h => by
          obtain ⟨h1, h2, h3⟩ := SBLK A h
          exact SMK _ ((Below.heap_setCell _ _ _ _ (by have := HLT.out; have := HS0.out; show W.heap.size ≠ w1.heap.size; omega)).trans h1) (h2.setCell (p := ⟨w1.heap.size, 0, none⟩) HZ1.out _) (by simpa using h3)
        have HSI : Aside0 (S W2.drew) := ⟨SMK W2.drew hnb (hbe2.trans ((Below.refl _ _).drew)) hl2⟩
        clear hq2 hnb hbe2 hl2 hcc hb2 SMK SBLK
        subst hS
        gi_wp2_with fail
        refine wpIn_region_held_drew (Wide.round l) (S := (fun w' => Aside0 (w'.heap[W.heap.size]? = some (.cells (piecesCells fb r c ph pw x) 109 (0, 0)) ∧ Below w.heap.size w w' ∧ W.heap.size < w'.heap.size) ∧ w'.cell? ⟨W.heap.size, 1, none⟩ = some (Value.pointer (some ⟨fb, 0, none⟩)) ∧ w'.cell? ⟨W.heap.size, 2, none⟩ = some (Value.int .i64 (oneB r c ph pw x).1) ∧ w'.cell? ⟨W.heap.size, 3, none⟩ = some (Value.int .i64 (oneB r c ph pw x).2.1) ∧ w'.cell? ⟨W.heap.size, 4, none⟩ = some (Value.int .i64 (oneB r c ph pw x).2.2.1) ∧ w'.cell? ⟨W.heap.size, 5, none⟩ = some (Value.int .i64 (oneB r c ph pw x).2.2.2) ∧ w'.cell? ⟨W.heap.size, 6, none⟩ = some (Value.pointer (some ⟨fb, 0, none⟩)) ∧ w'.cell? ⟨W.heap.size, 7, none⟩ = some (Value.int .i64 (twoB r c ph pw x).1) ∧ w'.cell? ⟨W.heap.size, 8, none⟩ = some (Value.int .i64 (twoB r c ph pw x).2.1) ∧ w'.cell? ⟨W.heap.size, 9, none⟩ = some (Value.int .i64 (twoB r c ph pw x).2.2.1) ∧ w'.cell? ⟨W.heap.size, 10, none⟩ = some (Value.int .i64 (twoB r c ph pw x).2.2.2))) (by kernel_rfl) (by kernel_rfl) (fun ⟨_, _, h⟩ => h) HSI.out (fun hHeld => ?_)
        rotate_left 0
        refine wpAnyH_take (i := 1) (oi := _) (v := ?_) rfl (by kernel_rfl) (by kernel_rfl) (by kernel_rfl) (fun _ _ _ h => h) (Or.inl ⟨by rfl, ?_⟩) (by assumption) ?_
        rotate_left
        · (intro w hSw; (try dsimp only at hSw); go_simp; try with_reducible rfl)
        try simp only [Act.put, List.setIfInBounds_toArray, List.set_cons_zero, List.set_cons_succ]
        refine wpAnyH_take (i := 2) (oi := _) (v := ?_) rfl (by kernel_rfl) (by kernel_rfl) (by kernel_rfl) (fun _ _ _ h => h) (Or.inl ⟨by rfl, ?_⟩) (by assumption) ?_
        rotate_left
        · (intro w hSw; (try dsimp only at hSw); go_simp; try with_reducible rfl)
        try simp only [Act.put, List.setIfInBounds_toArray, List.set_cons_zero, List.set_cons_succ]
        refine wpAnyH_take (i := 4) (oi := _) (v := ?_) rfl (by kernel_rfl) (by kernel_rfl) (by kernel_rfl) (fun _ _ _ h => h) (Or.inl ⟨by rfl, ?_⟩) (by assumption) ?_
        rotate_left
        · (intro w hSw; (try dsimp only at hSw); go_simp; try with_reducible rfl)
        try simp only [Act.put, List.setIfInBounds_toArray, List.set_cons_zero, List.set_cons_succ]
        refine wpAnyH_take (i := 5) (oi := _) (v := ?_) rfl (by kernel_rfl) (by kernel_rfl) (by kernel_rfl) (fun _ _ _ h => h) (Or.inl ⟨by rfl, ?_⟩) (by assumption) ?_
        rotate_left
        · (intro w hSw; (try dsimp only at hSw); go_simp; try with_reducible rfl)
        try simp only [Act.put, List.setIfInBounds_toArray, List.set_cons_zero, List.set_cons_succ]
        refine wpAnyH_ready (rs := [0, 3]) (by kernel_rfl) (by simp) ?_
        refine AllReadyH.cons (o := _) rfl (fun K hK => ?_) ?_
        (have hq := HQ.out.cell; go_simp; clear hq)
        refine hK.out _ _ ?_ (fun hHeld => ?_)
        · ((try dsimp only); (first | exact SKEEP _ _ hHeld HBC.out | exact hHeld | exact SSET _ _ hHeld | exact HSI.out))
        clear hK K
        try simp only [Act.put, List.setIfInBounds_toArray, List.set_cons_zero, List.set_cons_succ]
        refine wpAnyH_ready (rs := [3]) (by kernel_rfl) (by simp) ?_
        refine AllReadyH.cons (o := _) rfl (fun K hK => ?_) AllReadyH.nil
        (go_simp; refine Calls.mono (HONE.out _ hHeld.1.out.2.1) ?_; rintro e w3 ⟨rfl, hbc⟩; have HQ := Aside0.mk (show Boxed w3 w1.heap.size 3 (.int .i64 (s : Nat)) from (hbc.block _ HQ.out.lt).trans HQ.out); have HRD := Aside0.mk (HRD.out.call HN0.out hbc); have HBC := Aside0.mk hbc; clear hbc)
        refine hK.out _ _ ?_ (fun hHeld => ?_)
        · ((try dsimp only); (first | exact SKEEP _ _ hHeld HBC.out | exact hHeld | exact SSET _ _ hHeld | exact HSI.out))
        clear hK K
        try simp only [Act.put, List.setIfInBounds_toArray, List.set_cons_zero, List.set_cons_succ]
        refine wpAnyH_ready (rs := [6]) (by kernel_rfl) (by simp) ?_
        refine AllReadyH.cons (o := _) rfl (fun K hK => ?_) AllReadyH.nil
        (go_simp; refine Calls.mono (HTWO.out _ hHeld.1.out.2.1) ?_; rintro e w3 ⟨rfl, hbc⟩; have HQ := Aside0.mk (show Boxed w3 w1.heap.size 3 (.int .i64 (s : Nat)) from (hbc.block _ HQ.out.lt).trans HQ.out); have HRD := Aside0.mk (HRD.out.call HN0.out hbc); have HBC := Aside0.mk hbc; clear hbc)
        refine hK.out _ _ ?_ (fun hHeld => ?_)
        · ((try dsimp only); (first | exact SKEEP _ _ hHeld HBC.out | exact hHeld | exact SSET _ _ hHeld | exact HSI.out))
        clear hK K
        try simp only [Act.put, List.setIfInBounds_toArray, List.set_cons_zero, List.set_cons_succ]
        refine wpAnyH_take (i := 7) (oi := _) (v := ?_) rfl (by kernel_rfl) (by kernel_rfl) (by kernel_rfl) (fun _ _ _ h => h) (Or.inl ⟨by rfl, ?_⟩) (by assumption) ?_
        rotate_left
        · (intro w hSw; (try dsimp only at hSw); go_simp; try with_reducible rfl)
        try simp only [Act.put, List.setIfInBounds_toArray, List.set_cons_zero, List.set_cons_succ]
        refine wpAnyH_take (i := 8) (oi := _) (v := ?_) rfl (by kernel_rfl) (by kernel_rfl) (by kernel_rfl) (fun _ _ _ h => h) (Or.inl ⟨by rfl, ?_⟩) (by assumption) ?_
        rotate_left
        · (intro w hSw; (try dsimp only at hSw); go_simp; try with_reducible rfl)
        try simp only [Act.put, List.setIfInBounds_toArray, List.set_cons_zero, List.set_cons_succ]
        refine wpAnyH_ready (rs := [9]) (by kernel_rfl) (by simp) ?_
        refine AllReadyH.cons (o := _) rfl (fun K hK => ?_) AllReadyH.nil
        (have hq := HQ.out.cell; have hz := HQ.out.frozen; go_simp; clear hq hz)
        refine hK.out _ _ ?_ (fun hHeld => ?_)
        · ((try dsimp only); (first | exact SKEEP _ _ hHeld HBC.out | exact hHeld | exact SSET _ _ hHeld | exact HSI.out))
        clear hK K
        try simp only [Act.put, List.setIfInBounds_toArray, List.set_cons_zero, List.set_cons_succ]
        refine wpAnyH_done (by kernel_rfl) ?_ _
        first | refine NoPanic.normal ?_ | skip
        rotate_left
        refine AllReadyH.cons (o := _) rfl (fun K hK => ?_) AllReadyH.nil
        (go_simp; refine Calls.mono (HONE.out _ hHeld.1.out.2.1) ?_; rintro e w3 ⟨rfl, hbc⟩; have HQ := Aside0.mk (show Boxed w3 w1.heap.size 3 (.int .i64 (s : Nat)) from (hbc.block _ HQ.out.lt).trans HQ.out); have HRD := Aside0.mk (HRD.out.call HN0.out hbc); have HBC := Aside0.mk hbc; clear hbc)
        refine hK.out _ _ ?_ (fun hHeld => ?_)
        · ((try dsimp only); (first | exact SKEEP _ _ hHeld HBC.out | exact hHeld | exact SSET _ _ hHeld | exact HSI.out))
        clear hK K
        try simp only [Act.put, List.setIfInBounds_toArray, List.set_cons_zero, List.set_cons_succ]
        refine wpAnyH_ready (rs := [0, 6]) (by kernel_rfl) (by simp) ?_
        refine AllReadyH.cons (o := _) rfl (fun K hK => ?_) ?_
        (have hq := HQ.out.cell; go_simp; clear hq)
        refine hK.out _ _ ?_ (fun hHeld => ?_)
        · ((try dsimp only); (first | exact SKEEP _ _ hHeld HBC.out | exact hHeld | exact SSET _ _ hHeld | exact HSI.out))
        clear hK K
        try simp only [Act.put, List.setIfInBounds_toArray, List.set_cons_zero, List.set_cons_succ]
        refine wpAnyH_ready (rs := [6]) (by kernel_rfl) (by simp) ?_
        refine AllReadyH.cons (o := _) rfl (fun K hK => ?_) AllReadyH.nil
        (go_simp; refine Calls.mono (HTWO.out _ hHeld.1.out.2.1) ?_; rintro e w3 ⟨rfl, hbc⟩; have HQ := Aside0.mk (show Boxed w3 w1.heap.size 3 (.int .i64 (s : Nat)) from (hbc.block _ HQ.out.lt).trans HQ.out); have HRD := Aside0.mk (HRD.out.call HN0.out hbc); have HBC := Aside0.mk hbc; clear hbc)
        refine hK.out _ _ ?_ (fun hHeld => ?_)
        · ((try dsimp only); (first | exact SKEEP _ _ hHeld HBC.out | exact hHeld | exact SSET _ _ hHeld | exact HSI.out))
        clear hK K
        try simp only [Act.put, List.setIfInBounds_toArray, List.set_cons_zero, List.set_cons_succ]
        refine wpAnyH_take (i := 7) (oi := _) (v := ?_) rfl (by kernel_rfl) (by kernel_rfl) (by kernel_rfl) (fun _ _ _ h => h) (Or.inl ⟨by rfl, ?_⟩) (by assumption) ?_
        rotate_left
        · (intro w hSw; (try dsimp only at hSw); go_simp; try with_reducible rfl)
        try simp only [Act.put, List.setIfInBounds_toArray, List.set_cons_zero, List.set_cons_succ]
        refine wpAnyH_take (i := 8) (oi := _) (v := ?_) rfl (by kernel_rfl) (by kernel_rfl) (by kernel_rfl) (fun _ _ _ h => h) (Or.inl ⟨by rfl, ?_⟩) (by assumption) ?_
        rotate_left
        · (intro w hSw; (try dsimp only at hSw); go_simp; try with_reducible rfl)
        try simp only [Act.put, List.setIfInBounds_toArray, List.set_cons_zero, List.set_cons_succ]
        refine wpAnyH_ready (rs := [9]) (by kernel_rfl) (by simp) ?_
        refine AllReadyH.cons (o := _) rfl (fun K hK => ?_) AllReadyH.nil
        (have hq := HQ.out.cell; have hz := HQ.out.frozen; go_simp; clear hq hz)
        refine hK.out _ _ ?_ (fun hHeld => ?_)
        · ((try dsimp only); (first | exact SKEEP _ _ hHeld HBC.out | exact hHeld | exact SSET _ _ hHeld | exact HSI.out))
        clear hK K
        try simp only [Act.put, List.setIfInBounds_toArray, List.set_cons_zero, List.set_cons_succ]
        refine wpAnyH_done (by kernel_rfl) ?_ _
        first | refine NoPanic.normal ?_ | skip
        rotate_left
        refine AllReadyH.cons (o := _) rfl (fun K hK => ?_) AllReadyH.nil
        (go_simp; refine Calls.mono (HTWO.out _ hHeld.1.out.2.1) ?_; rintro e w3 ⟨rfl, hbc⟩; have HQ := Aside0.mk (show Boxed w3 w1.heap.size 3 (.int .i64 (s : Nat)) from (hbc.block _ HQ.out.lt).trans HQ.out); have HRD := Aside0.mk (HRD.out.call HN0.out hbc); have HBC := Aside0.mk hbc; clear hbc)
        refine hK.out _ _ ?_ (fun hHeld => ?_)
        · ((try dsimp only); (first | exact SKEEP _ _ hHeld HBC.out | exact hHeld | exact SSET _ _ hHeld | exact HSI.out))
        clear hK K
        try simp only [Act.put, List.setIfInBounds_toArray, List.set_cons_zero, List.set_cons_succ]
        refine wpAnyH_take (i := 7) (oi := _) (v := ?_) rfl (by kernel_rfl) (by kernel_rfl) (by kernel_rfl) (fun _ _ _ h => h) (Or.inl ⟨by rfl, ?_⟩) (by assumption) ?_
        rotate_left
        · (intro w hSw; (try dsimp only at hSw); go_simp; try with_reducible rfl)
        try simp only [Act.put, List.setIfInBounds_toArray, List.set_cons_zero, List.set_cons_succ]
        refine wpAnyH_ready (rs := [0]) (by kernel_rfl) (by simp) ?_
        refine AllReadyH.cons (o := _) rfl (fun K hK => ?_) AllReadyH.nil
        (have hq := HQ.out.cell; go_simp; clear hq)
        refine hK.out _ _ ?_ (fun hHeld => ?_)
        · ((try dsimp only); (first | exact SKEEP _ _ hHeld HBC.out | exact hHeld | exact SSET _ _ hHeld | exact HSI.out))
        clear hK K
        try simp only [Act.put, List.setIfInBounds_toArray, List.set_cons_zero, List.set_cons_succ]
        refine wpAnyH_take (i := 8) (oi := _) (v := ?_) rfl (by kernel_rfl) (by kernel_rfl) (by kernel_rfl) (fun _ _ _ h => h) (Or.inl ⟨by rfl, ?_⟩) (by assumption) ?_
        rotate_left
        · (intro w hSw; (try dsimp only at hSw); go_simp; try with_reducible rfl)
        try simp only [Act.put, List.setIfInBounds_toArray, List.set_cons_zero, List.set_cons_succ]
        refine wpAnyH_ready (rs := [9]) (by kernel_rfl) (by simp) ?_
        refine AllReadyH.cons (o := _) rfl (fun K hK => ?_) AllReadyH.nil
        (have hq := HQ.out.cell; have hz := HQ.out.frozen; go_simp; clear hq hz)
        refine hK.out _ _ ?_ (fun hHeld => ?_)
        · ((try dsimp only); (first | exact SKEEP _ _ hHeld HBC.out | exact hHeld | exact SSET _ _ hHeld | exact HSI.out))
        clear hK K
        try simp only [Act.put, List.setIfInBounds_toArray, List.set_cons_zero, List.set_cons_succ]
        refine wpAnyH_done (by kernel_rfl) ?_ _
        first | refine NoPanic.normal ?_ | skip
        all_goals
          have hnn : ((s + na * nb : Nat) : Int) = IntKind.i64.wrap ((s : Int) + IntKind.i64.wrap ((na : Int) * (nb : Int))) := wrap_sum HS1.out
          refine ⟨HRD.out.setCell (.inr rfl) _, ?_⟩
          show Boxed _ _ _ (.int .i64 ((waysSum cl boxes n r c ph pw (pre ++ [x]) : Nat) : Int))
          rw [HSN.out, hnn]
          exact HQ.out.set _
      case done =>
        rintro D W hD hk hbt hK
        have q1 := hbt.cell
        have hB3 := HB2.out.trans (hk.below (m := w.heap.size) (fun k e => by have := HZ1.out; omega) (by have := HS0.out; have := HZ1.out; simp; omega))
        have HB := Aside0.mk hB3
        have HK := Aside0.mk hK
        have HD := Aside0.mk hD
        clear hB3 hbt hK hk hD
        go_wp2
        refine ret_mark HK.out ?_
        intro W' hc hb
        refine ⟨.int .i64 (waysSum cl boxes n r c ph pw (cutsL cl r c ph pw) : Nat), by simp [results, Try.f146, go_sem], by rw [HV.out], ?_⟩
        exact HB.out.trans (hb _ (by have h1 := HD.out; have h2 := HS0.out; have h3 := HZ1.out; simp at h1; omega))
      case stop =>
        rintro D pre W hD hk hpre hF0 hK
        exact hF0.elim
end Go.Proofs.Ytdhnjecbdclmaaa
