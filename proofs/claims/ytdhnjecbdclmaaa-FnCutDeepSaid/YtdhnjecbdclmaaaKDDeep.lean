/- The program's deep. -/
import Derived.Test.YtdhnjecbdclmaaaKDDeepPM
import Derived.IntWalk
namespace Go.Proofs.Ytdhnjecbdclmaaa
open Go.RowKit Go.Shelf Go.Proofs.YtdhnjecbdclmaaaW.PrintWords Go.Proofs.YtdhnjecbdclmaaaW.PrintMore
attribute [local go_sem] Oper.semAt_some
attribute [local go_sem] max2_int min2_int max_two min_two max_three min_three max_four min_four
set_option linter.unusedVariables false
set_option linter.unusedSimpArgs false
theorem ret_plain3 {P : Program} {fn : Func} {R : Ending → World → Prop} {tmps : Array Value} {W : World} (h : ∃ v, (results fn tmps).run P W = .ok v W ∧ R (.returned v) W) :
    bodyPostM Fence.wide 0 P fn R .ret { tmps, defers := [] } W := h
def deepV (o : Option Nat) : Value := .tuple #[.int .i64 ((o.getD 0 : Nat) : Int), .bool o.isSome]
set_option maxRecDepth 100000 in
set_option maxHeartbeats 8000000 in
theorem deep_any (fb h wd : Nat) (cl : Nat → Nat → Int) (boxes : List Box) (f : Flat cl boxes h wd) (hbs : ∀ x ∈ boxes, BoxIn x) :
    ∀ (n : Nat), n ≤ 13 → ∀ (r c ph pw : Nat), ph + pw < n → Whole cl h wd r c ph pw → ∀ (w : World), FloorR w fb h wd cl boxes →
    Calls Try.prog 104 #[partV fb (natB r c ph pw)] w fun e w' => e = .returned (deepV (deepO cl boxes n (r, c, ph, pw))) ∧ Below w.heap.size w w' := by
  intro n
  induction n with
  | zero => intro _ r c ph pw h0; omega
  | succ n ih =>
    intro hn13 r c ph pw hlt hwh w hf
    have hh := f.high
    have hwd := f.wide
    have hr := hwh.row
    have hc := hwh.col
    have hfew := f.few
    have HAL := Aside0.mk (fun W (hW : Below w.heap.size w W) => alone_any fb h wd cl boxes W (hf.below hW) (natB r c ph pw) (boxIn_nat (by omega) (by omega) (by omega) (by omega)) hbs (by omega))
    have HIH := Aside0.mk (fun x (hx : x ∈ cutsL cl r c ph pw) W (hW : Below w.heap.size w W) => And.intro (ih (by omega) (oneR r c ph pw x).1 (oneR r c ph pw x).2.1 (oneR r c ph pw x).2.2.1 (oneR r c ph pw x).2.2.2 (by have := (one_in hx).less; omega) (whole_parts f hwh hx).1 W (hf.below hW)) (ih (by omega) (twoR r c ph pw x).1 (twoR r c ph pw x).2.1 (twoR r c ph pw x).2.2.1 (twoR r c ph pw x).2.2.2 (by have := (two_in hx).less; omega) (whole_parts f hwh hx).2 W (hf.below hW)))
    have HF := Aside0.mk hf
    have HW := Aside0.mk hwh
    have HFL := Aside0.mk f
    clear ih hf
    by_cases h1 : (listL boxes (natB r c ph pw) boxes.length).length = 1
    · have hb1 : ((((listL boxes (natB r c ph pw) boxes.length).length : Nat) : Int) == 1) = true := by rw [beq_iff_eq]; omega
      have hv : deepO cl boxes (n + 1) (r, c, ph, pw) = some 0 := by unfold deepO; rw [if_pos h1]
      rw [hb1] at HAL
      rw [hv]
      clear h1 hb1 hv
      refine calls_of_wp_marks Try.func104 rfl ?_
      simp only [partV, natB] at HAL ⊢
      simp only [Try.ntmps104, List.size_toArray, List.length_cons, List.length_nil, Nat.reduceAdd, Nat.reduceSub, Array.replicate_succ, Array.replicate_zero, List.push_toArray, List.append_toArray, List.nil_append, List.cons_append]
      go_wp2_with fail
      refine (HAL.out _ ((Below.refl _ _).alloc (Nat.le_refl _) _)).mono ?_
      rintro e w1 ⟨rfl, hb1⟩
      have HB1 := Aside0.mk (((Below.refl _ w).alloc (Nat.le_refl _) _).trans (hb1.mono (by simp)))
      clear hb1
      go_wp2_with fail
      refine ret_plain3 ⟨.tuple #[.int .i64 0, .bool true], by simp [results, Try.f104, go_sem], rfl, HB1.out⟩
    · have hb1 : ((((listL boxes (natB r c ph pw) boxes.length).length : Nat) : Int) == 1) = false := by rw [beq_eq_false_iff_ne]; omega
      have hv : deepO cl boxes (n + 1) (r, c, ph, pw) = deepS cl boxes n r c ph pw (cutsL cl r c ph pw) := by
        conv => lhs; unfold deepO
        rw [if_neg h1]; rfl
      rw [hb1] at HAL
      have HV := Aside0.mk hv
      clear h1 hb1 hv
      refine calls_of_wp_marks Try.func104 rfl ?_
      simp only [partV, natB] at HAL ⊢
      simp only [Try.ntmps104, List.size_toArray, List.length_cons, List.length_nil, Nat.reduceAdd, Nat.reduceSub, Array.replicate_succ, Array.replicate_zero, List.push_toArray, List.append_toArray, List.nil_append, List.cons_append]
      go_wp2_with fail
      refine (HAL.out _ ((Below.refl _ _).alloc (Nat.le_refl _) _)).mono ?_
      rintro e w1 ⟨rfl, hb1⟩
      have hp := (hb1.block w.heap.size (by simp)).trans (heap_alloc_new w _)
      have p0 := blk_cell hp 0
      have p1 := blk_cell hp 1
      have p2 := blk_cell hp 2
      have p3 := blk_cell hp 3
      have p4 := blk_cell hp 4
      simp at p0 p1 p2 p3 p4
      have HB1 := Aside0.mk (((Below.refl _ w).alloc (Nat.le_refl _) _).trans (hb1.mono (by simp)))
      have hlt1 : w.heap.size < w1.heap.size := (Array.getElem?_eq_some_iff.1 hp).1
      clear hb1 hp
      go_wp2_with fail
      have hB0 := HB1.out.alloc HB1.out.size (.cells #[.int .i64 (-1)] 3)
      have hS0 := Boxed.new w1 3 (.int .i64 (-1))
      have hz1 := HB1.out.size
      have HZ1 := Aside0.mk hz1
      refine (cuts_any fb (natB r c ph pw) _).mono ?_
      rintro e w' ⟨rfl, rfl⟩
      simp only [partCells, natB]
      go_wp2_with fail
      obtain ⟨W0, hW0⟩ : ∃ W0, w1.alloc (.cells #[.int .i64 (-1)] 3) = W0 := ⟨_, rfl⟩
      have hsz0 : W0.heap.size = w1.heap.size + 1 := by rw [← hW0]; simp
      rw [hW0] at hB0 hS0 ⊢
      have HS0 := Aside0.mk hsz0
      have HSB := Aside0.mk hS0
      have hB2 := hB0.alloc hB0.size (.cells #[.pointer (some ⟨fb, 0, none⟩), .int .i64 r, .int .i64 c, .int .i64 ph, .int .i64 pw] 58)
      have HB2 := Aside0.mk hB2
      clear hW0 hsz0 hS0 p0 p1 p2 p3 p4 hB0 hz1
      refine wp_range_ro (gf := 204) (lb := #[.pointer (some ⟨W0.heap.size, 0, none⟩)]) rfl (enters_of Try.func204 (by kernel_rfl) rfl)
        (cuts1_iter fb h wd cl boxes r c ph pw W0.heap.size w.heap.size (fun k => k = w1.heap.size) (fun k e => by have := HZ1.out; omega) (by have := HS0.out; omega) w _ rfl HB2.out HF.out (by omega) (by omega) hr hc (heap_alloc_new W0 _)) (Below.refl _ _) (fun _ => rfl)
        (fun pre W => Boxed W w1.heap.size 3 (.int .i64 (bestI (deepS cl boxes n r c ph pw pre))))
        (fun pre W => False)
        (fun s X Y h hc => hc.boxed h) (fun s X Y h hc => h)
        (HSB.out.alloc _) ?round ?done ?stop
      case round =>
        rintro l pre x W hpre hbt hbW
        have hxm : x ∈ cutsL cl r c ph pw := hpre.subset (by simp)
        have hlt : W0.heap.size + 1 ≤ W.heap.size := by have h1 := hbW.size; rw [World.size_alloc] at h1; omega
        obtain ⟨hI1, hI2⟩ := (fun W hW => HIH.out x hxm W hW : ∀ W, Below w.heap.size w W → _) |> fun g => And.intro (fun W hW => (g W hW).1) (fun W hW => (g W hW).2)
        obtain ⟨o1, hna⟩ : ∃ a, deepO cl boxes n (oneR r c ph pw x) = a := ⟨_, rfl⟩
        obtain ⟨o2, hnb⟩ : ∃ a, deepO cl boxes n (twoR r c ph pw x) = a := ⟨_, rfl⟩
        have HONE : Aside0 (∀ W, Below w.heap.size w W → Calls Try.prog 104 #[.agg #[.pointer (some ⟨fb, 0, none⟩), .int .i64 (oneB r c ph pw x).1, .int .i64 (oneB r c ph pw x).2.1, .int .i64 (oneB r c ph pw x).2.2.1, .int .i64 (oneB r c ph pw x).2.2.2]] W fun e w' => e = .returned (deepV o1) ∧ Below W.heap.size W w') := ⟨fun W hW => by rw [oneB_R, ← hna]; exact hI1 W hW⟩
        have HTWO : Aside0 (∀ W, Below w.heap.size w W → Calls Try.prog 104 #[.agg #[.pointer (some ⟨fb, 0, none⟩), .int .i64 (twoB r c ph pw x).1, .int .i64 (twoB r c ph pw x).2.1, .int .i64 (twoB r c ph pw x).2.2.1, .int .i64 (twoB r c ph pw x).2.2.2]] W fun e w' => e = .returned (deepV o2) ∧ Below W.heap.size W w') := ⟨fun W hW => by rw [twoB_R, ← hnb]; exact hI2 W hW⟩
        have hsn := deepS_snoc cl boxes n r c ph pw pre x
        have b1 := deep_lt cl boxes n (oneR r c ph pw x)
        have b2 := deep_lt cl boxes n (twoR r c ph pw x)
        rw [hna] at b1
        rw [hnb] at b2
        rw [hna, hnb] at hsn
        have hs1 := deepS_lt cl boxes n r c ph pw pre
        obtain ⟨s, hs⟩ : ∃ s, deepS cl boxes n r c ph pw pre = s := ⟨_, rfl⟩
        rw [hs] at hbt hsn hs1
        have HSN := Aside0.mk hsn
        have HBT := Aside0.mk hbt
        have HLT := Aside0.mk hlt
        have HKW := Aside0.mk hbW
        clear hI1 hI2 hna hnb hsn hs hbt hlt hpre hxm hbW
        simp only [piecesV]
        gi_wp2
        refine ⟨(Rd.refl _ _ _).alloc (by have := HLT.out; simp; omega) _, fun W2 hcc hb2 => ?_⟩
        have hq2 := hcc.boxed (HBT.out.alloc _)
        have hnb := hcc.same W.heap.size _ (World.alloc_heap_new W _) rfl
        have hbe2 : Below w.heap.size w W2 := HB2.out.trans (hb2.below (m := w.heap.size) (fun k e => by have := HZ1.out; omega) (by have := HS0.out; have := HZ1.out; simp; omega))
        have HN0 : Aside0 ((W0.alloc (.cells #[.pointer (some ⟨fb, 0, none⟩), .int .i64 r, .int .i64 c, .int .i64 ph, .int .i64 pw] 58)).heap.size ≤ W2.heap.size) := ⟨by have := HLT.out; have h2 := (Array.getElem?_eq_some_iff.1 hnb).1; simp; omega⟩
        have n1 := blk_cell hnb 1
        have n2 := blk_cell hnb 2
        have n3 := blk_cell hnb 3
        have n4 := blk_cell hnb 4
        have n5 := blk_cell hnb 5
        have n6 := blk_cell hnb 6
        have n7 := blk_cell hnb 7
        have n8 := blk_cell hnb 8
        have n9 := blk_cell hnb 9
        have n10 := blk_cell hnb 10
        simp at n1 n2 n3 n4 n5 n6 n7 n8 n9 n10
        have HQ2 := Aside0.mk hq2
        have HNB := Aside0.mk hnb
        have HBE := Aside0.mk hbe2
        clear hq2 hnb hbe2 hcc hb2
        gi_wp2_with fail
        refine ⟨trivial, rfl, (((callsIn_wide (n := 0)).2 (HONE.out _ HBE.out)).inRound l).mono ?_⟩
        rintro e W3 ⟨rfl, hb3⟩
        have hq3 := (hb3.block _ HQ2.out.lt).trans HQ2.out
        have hnb := (hb3.block _ (Array.getElem?_eq_some_iff.1 HNB.out).1).trans HNB.out
        have HRD := Aside0.mk ((Rd.refl (W0.alloc (.cells #[.pointer (some ⟨fb, 0, none⟩), .int .i64 r, .int .i64 c, .int .i64 ph, .int .i64 pw] 58)).heap.size (fun k => k = w1.heap.size) W2).call HN0.out hb3)
        have HBE3 := Aside0.mk (HBE.out.trans (hb3.mono HBE.out.size))
        clear n1 n2 n3 n4 n5 n6 n7 n8 n9 n10
        have n1 := blk_cell hnb 1
        have n2 := blk_cell hnb 2
        have n3 := blk_cell hnb 3
        have n4 := blk_cell hnb 4
        have n5 := blk_cell hnb 5
        have n6 := blk_cell hnb 6
        have n7 := blk_cell hnb 7
        have n8 := blk_cell hnb 8
        have n9 := blk_cell hnb 9
        have n10 := blk_cell hnb 10
        simp at n1 n2 n3 n4 n5 n6 n7 n8 n9 n10
        have HQ3 : Aside0 (Boxed W3 w1.heap.size 3 (.int .i64 (bestI s))) := ⟨hq3⟩
        have HNB3 := Aside0.mk hnb
        clear hb3 hq3 hnb
        unfold deepV
        gi_wp2_with fail
        refine ⟨trivial, rfl, (((callsIn_wide (n := 0)).2 (HTWO.out _ HBE3.out)).inRound l).mono ?_⟩
        rintro e W4 ⟨rfl, hb4⟩
        have HQ4 : Aside0 (Boxed W4 w1.heap.size 3 (.int .i64 (bestI s))) := ⟨(hb4.block _ HQ3.out.lt).trans HQ3.out⟩
        have HRD4 := Aside0.mk (HRD.out.call HN0.out hb4)
        have HRD5 : Aside0 (Rd (W0.heap.size + 1) (fun k => k = w1.heap.size) W2 W4) := ⟨by have := HRD4.out; rwa [World.size_alloc] at this⟩
        clear n1 n2 n3 n4 n5 n6 n7 n8 n9 n10 hb4
        unfold deepV
        cases o1 with
        | none =>
          have HS2 : Aside0 (deepS cl boxes n r c ph pw (pre ++ [x]) = s) := ⟨HSN.out⟩
          simp only [Option.isSome_none, Option.getD_none]
          gi_wp2
          all_goals exact ⟨by first | exact HRD4.out | exact HRD5.out, by show Boxed _ _ _ (.int .i64 (bestI (deepS cl boxes n r c ph pw (pre ++ [x])))); rw [HS2.out]; exact HQ4.out⟩
        | some a =>
          cases o2 with
          | none =>
            have HS2 : Aside0 (deepS cl boxes n r c ph pw (pre ++ [x]) = s) := ⟨HSN.out⟩
            simp only [Option.isSome_none, Option.isSome_some, Option.getD_none, Option.getD_some]
            gi_wp2
            all_goals exact ⟨by first | exact HRD4.out | exact HRD5.out, by show Boxed _ _ _ (.int .i64 (bestI (deepS cl boxes n r c ph pw (pre ++ [x])))); rw [HS2.out]; exact HQ4.out⟩
          | some b =>
            have ha := b1 a rfl
            have hb := b2 b rfl
            simp only [Option.isSome_some, Option.getD_some]
            rcases Nat.lt_or_ge a b with hab | hab
            · skip
              have hc2 : (a : Int) < (b : Int) := by omega
              have hm : max a b = b := by omega
              cases s with
              | none =>
                have HS2 : Aside0 (deepS cl boxes n r c ph pw (pre ++ [x]) = some (1 + b)) := ⟨by rw [HSN.out]; unfold stepD; simp only [hm]⟩
                have q1 := HQ4.out.cell
                have q2 := HQ4.out.frozen
                unfold bestI at q1
                clear hm b1 b2 hs1
                gi_wp2
                all_goals
                  refine ⟨by first | exact HRD4.out.setCell (.inr rfl) _ | exact HRD5.out.setCell (.inr rfl) _, ?_⟩
                  show Boxed _ _ _ (.int .i64 (bestI (deepS cl boxes n r c ph pw (pre ++ [x]))))
                  rw [HS2.out]
                  exact (show bestI (some (1 + b)) = 1 + (b : Int) from by unfold bestI; push_cast; rfl) ▸ HQ4.out.set _
              | some e =>
                have he := hs1 e rfl
                have q1 := HQ4.out.cell
                have q2 := HQ4.out.frozen
                unfold bestI at q1
                have hne : ¬ (e : Int) < 0 := by omega
                by_cases hd : 1 + b < e
                · have HS2 : Aside0 (deepS cl boxes n r c ph pw (pre ++ [x]) = some (1 + b)) := ⟨by rw [HSN.out]; unfold stepD; simp only [hm]; rw [if_pos hd]⟩
                  have hd2 : 1 + (b : Int) < (e : Int) := by omega
                  clear hm b1 b2 hs1 hd
                  gi_wp2
                  all_goals
                    refine ⟨by first | exact HRD4.out.setCell (.inr rfl) _ | exact HRD5.out.setCell (.inr rfl) _, ?_⟩
                    show Boxed _ _ _ (.int .i64 (bestI (deepS cl boxes n r c ph pw (pre ++ [x]))))
                    rw [HS2.out]
                    exact (show bestI (some (1 + b)) = 1 + (b : Int) from by unfold bestI; push_cast; rfl) ▸ HQ4.out.set _
                · have HS2 : Aside0 (deepS cl boxes n r c ph pw (pre ++ [x]) = some e) := ⟨by rw [HSN.out]; unfold stepD; simp only [hm]; rw [if_neg hd]⟩
                  have hd2 : ¬ 1 + (b : Int) < (e : Int) := by omega
                  clear hm b1 b2 hs1 hd
                  gi_wp2
                  all_goals
                    refine ⟨by first | exact HRD4.out | exact HRD5.out, ?_⟩
                    show Boxed _ _ _ (.int .i64 (bestI (deepS cl boxes n r c ph pw (pre ++ [x]))))
                    rw [HS2.out]
                    exact HQ4.out
            · skip
              have hc2 : ¬ (a : Int) < (b : Int) := by omega
              have hm : max a b = a := by omega
              cases s with
              | none =>
                have HS2 : Aside0 (deepS cl boxes n r c ph pw (pre ++ [x]) = some (1 + a)) := ⟨by rw [HSN.out]; unfold stepD; simp only [hm]⟩
                have q1 := HQ4.out.cell
                have q2 := HQ4.out.frozen
                unfold bestI at q1
                clear hm b1 b2 hs1
                gi_wp2
                all_goals
                  refine ⟨by first | exact HRD4.out.setCell (.inr rfl) _ | exact HRD5.out.setCell (.inr rfl) _, ?_⟩
                  show Boxed _ _ _ (.int .i64 (bestI (deepS cl boxes n r c ph pw (pre ++ [x]))))
                  rw [HS2.out]
                  exact (show bestI (some (1 + a)) = 1 + (a : Int) from by unfold bestI; push_cast; rfl) ▸ HQ4.out.set _
              | some e =>
                have he := hs1 e rfl
                have q1 := HQ4.out.cell
                have q2 := HQ4.out.frozen
                unfold bestI at q1
                have hne : ¬ (e : Int) < 0 := by omega
                by_cases hd : 1 + a < e
                · have HS2 : Aside0 (deepS cl boxes n r c ph pw (pre ++ [x]) = some (1 + a)) := ⟨by rw [HSN.out]; unfold stepD; simp only [hm]; rw [if_pos hd]⟩
                  have hd2 : 1 + (a : Int) < (e : Int) := by omega
                  clear hm b1 b2 hs1 hd
                  gi_wp2
                  all_goals
                    refine ⟨by first | exact HRD4.out.setCell (.inr rfl) _ | exact HRD5.out.setCell (.inr rfl) _, ?_⟩
                    show Boxed _ _ _ (.int .i64 (bestI (deepS cl boxes n r c ph pw (pre ++ [x]))))
                    rw [HS2.out]
                    exact (show bestI (some (1 + a)) = 1 + (a : Int) from by unfold bestI; push_cast; rfl) ▸ HQ4.out.set _
                · have HS2 : Aside0 (deepS cl boxes n r c ph pw (pre ++ [x]) = some e) := ⟨by rw [HSN.out]; unfold stepD; simp only [hm]; rw [if_neg hd]⟩
                  have hd2 : ¬ 1 + (a : Int) < (e : Int) := by omega
                  clear hm b1 b2 hs1 hd
                  gi_wp2
                  all_goals
                    refine ⟨by first | exact HRD4.out | exact HRD5.out, ?_⟩
                    show Boxed _ _ _ (.int .i64 (bestI (deepS cl boxes n r c ph pw (pre ++ [x]))))
                    rw [HS2.out]
                    exact HQ4.out
      case done =>
        rintro D W hD hk hbt hK
        have q1 := hbt.cell
        have hB3 := HB2.out.trans (hk.below (m := w.heap.size) (fun k e => by have := HZ1.out; omega) (by have := HS0.out; have := HZ1.out; simp; omega))
        have HB := Aside0.mk hB3
        have HK := Aside0.mk hK
        have HD := Aside0.mk hD
        obtain ⟨s, hs⟩ : ∃ s, deepS cl boxes n r c ph pw (cutsL cl r c ph pw) = s := ⟨_, rfl⟩
        have hs1 := deepS_lt cl boxes n r c ph pw (cutsL cl r c ph pw)
        rw [hs] at q1 hs1
        have HVS := Aside0.mk (HV.out.trans hs)
        clear hB3 hbt hK hk hD hs
        cases s with
        | none =>
          unfold bestI at q1
          clear hs1
          go_wp2
          go_quiet (fail)
          go_wp2
          all_goals
            refine ret_mark HK.out ?_
            intro W' hc hb
            refine ⟨.tuple #[.int .i64 0, .bool false], by simp [results, Try.f104, go_sem], by rw [HVS.out]; rfl, ?_⟩
            exact (HB.out.trans ((pw_below_drewN (Below.refl _ _) _))).trans (hb _ (by have h1 := HD.out; have h2 := HS0.out; have h3 := HZ1.out; simp at h1; omega))
        | some e =>
          have he := hs1 e rfl
          unfold bestI at q1
          have hne : ¬ (e : Int) < 0 := by omega
          clear hs1
          go_wp2
          go_quiet (fail)
          go_wp2
          all_goals
            refine ret_mark HK.out ?_
            intro W' hc hb
            refine ⟨.tuple #[.int .i64 (e : Int), .bool true], by simp [results, Try.f104, go_sem], by rw [HVS.out]; rfl, ?_⟩
            exact (HB.out.trans ((pw_below_drewN (Below.refl _ _) _))).trans (hb _ (by have h1 := HD.out; have h2 := HS0.out; have h3 := HZ1.out; simp at h1; omega))
      case stop =>
        rintro D pre W hD hk hpre hF0 hK
        exact hF0.elim
end Go.Proofs.Ytdhnjecbdclmaaa
