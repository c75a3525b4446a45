/- Texts of this claim's, joined by a program: FPlanRooms, FPoints, FWallX. -/
import Derived.Test.YtbpppchkgjcahaaKFFloorRM
import Derived.Test.YtbpppchkgjcahaaKFFourDM
import Derived.Test.YtbpppchkgjcahaaKFShelf2M
import Derived.Sort.OwnSortedInts
section
namespace Go.Proofs.Ytbpppchkgjcahaa
open Go.RowKit Go.Shelf Go.Proofs.YtbpppchkgjcahaaW.PrintWords Go.Proofs.YtbpppchkgjcahaaW.PrintMore
set_option linter.unusedVariables false
set_option linter.unusedSimpArgs false
def roomsP (p : List ByteArray) : Int × Bool := if planG p then (((boxesP p).length : Int), true) else (0, false)
set_option maxHeartbeats 4000000 in
theorem planRooms_any (A : Option Addr) (cap : Nat) (p : List ByteArray) (hp : SmallP p) (w : World) (hr0 : Kd.C Kd.string w A p.length p) (hc0 : p.length ≤ cap) :
    Calls Try.prog 27 #[.slice A p.length cap] w fun e w' => e = .returned (.tuple #[.int .i64 (roomsP p).1, .bool (roomsP p).2]) ∧ Below w.heap.size w w' := by
  have HFL := floorOf_any A cap p hp.1 hp.2 w hr0 hc0
  clear hr0
  go_enter Try.func27, Try.ntmps27
  go_wp2_with fail
  refine HFL.mono ?_
  rintro e w1 ⟨hb1, ⟨hpl, fb, base, rfl, hbase, hfl⟩ | ⟨hpl, o, rfl⟩⟩
  · have HB1 := Aside0.mk hb1
    obtain ⟨g, rb, RA, rc, h1, h2, h3, h4, h5, h6⟩ := hfl.reads
    have HV : Aside0 (roomsP p = (((boxesP p).length : Int), true)) := ⟨by unfold roomsP; rw [if_pos hpl]⟩
    clear hb1 hpl hfl h5 h6
    go_wp2_with fail
    go_ret2
    exact ⟨by rw [HV.out]; rfl, HB1.out⟩
  · have HB1 := Aside0.mk hb1
    have HV : Aside0 (roomsP p = (0, false)) := ⟨by unfold roomsP; rw [hpl]; rfl⟩
    clear hb1 hpl
    go_wp2_with fail
    go_ret2
    exact ⟨by rw [HV.out]; rfl, HB1.out⟩
end Go.Proofs.Ytbpppchkgjcahaa
end
section
namespace Go.Proofs.Ytbpppchkgjcahaa
open Go.RowKit Go.Shelf Go.Proofs.YtbpppchkgjcahaaW.PrintWords Go.Proofs.YtbpppchkgjcahaaW.PrintMore
set_option linter.unusedVariables false
set_option linter.unusedSimpArgs false
theorem sort4_any (B : Nat) (a b c d : Int) (w : World) (hB : w.heap[B]? = some (.cells #[.int .i64 a, .int .i64 b, .int .i64 c, .int .i64 d] 3 (0, 0))) :
    Calls Try.prog 192 #[.slice (some ⟨B, 0, none⟩) 4 4] w fun e w' => e = .returned (.tuple #[]) ∧ w.grownBy w' (some B) ∧ Go.Sort.Holds (Value.int .i64) w' B 0 ([a, b, c, d].mergeSort fun x y => decide (x ≤ y)).toArray := by
  have hH : Go.Sort.Holds (Value.int .i64) w B 0 [a, b, c, d].toArray := holds_of_blockI hB rfl
  have hlt : B < w.heap.size := (Array.getElem?_eq_some_iff.1 hB).1
  refine (Try.slices_Sort_int B 0 4 [a, b, c, d] w hH hlt (by show 4 < _; omega)).mono ?_
  rintro e w' ⟨rfl, n, os, rfl⟩
  refine ⟨rfl, grownBy_sortedI _, Go.Sort.holds_grow _ _ _ _ _ _ (by simpa using hlt) (Go.Sort.holds_putRow _ _ _ _ _ _ (Go.Sort.holds_ahead _ _ _ _ _ _ hH) ?_)⟩
  rw [List.size_toArray, List.size_toArray, (List.mergeSort_perm _ _).length_eq]
theorem compact4_any (B : Nat) (zs : List Int) (h4 : zs.length = 4) (w : World) (hH : Go.Sort.Holds (Value.int .i64) w B 0 zs.toArray) :
    Calls Try.prog 193 #[.slice (some ⟨B, 0, none⟩) 4 4] w fun e w' => e = .returned (.slice (some ⟨B, 0, none⟩) (Lib.compact zs).length 4) ∧ w.grownBy w' (some B) := by
  have h := Try.slices_Compact_int B 0 4 zs w hH (by omega) (by omega)
  rw [h4] at h
  refine h.mono ?_
  rintro e w' ⟨rfl, q, rfl⟩
  refine ⟨rfl, ?_⟩
  have := grownBy_sortedI (w := w) (g := B) (n := q) (os := #[]) (Lib.compact zs ++ List.replicate (4 - (Lib.compact zs).length) 0).toArray
  rwa [Go.Sort.grow_empty] at this
theorem rowPts_split (G : Nat → Nat → Int) (many : Int) (i : Nat) {j w : Nat} (h : j < w) : rowPts G many i j (w - j) = (if ((meets G i j : Nat) : Int) = many then 1 else 0) + rowPts G many i (j + 1) (w - (j + 1)) := by
  rw [show w - j = (w - (j + 1)) + 1 by omega]; rfl
theorem allPts_split (G : Nat → Nat → Int) (w : Nat) (many : Int) {i h : Nat} (hi : i < h) : allPts G w many i (h - i) = rowPts G many i 1 (w - 1) + allPts G w many (i + 1) (h - (i + 1)) := by
  rw [show h - i = (h - (i + 1)) + 1 by omega]; rfl
set_option maxRecDepth 100000 in
set_option maxHeartbeats 16000000 in
theorem points_any (fb h wd : Nat) (cl : Nat → Nat → Int) (boxes : List Box) (hh : 1 ≤ h ∧ h ≤ 6) (hw : 1 ≤ wd ∧ wd ≤ 6) (w : World) (hf : FloorR w fb h wd cl boxes) (many : Int) :
    Calls Try.prog 158 #[.pointer (some ⟨fb, 0, none⟩), .int .i64 many] w fun e w' => e = .returned (.int .i64 ((allPts cl wd many 1 (h - 1) : Nat) : Int)) ∧ Below w.heap.size w w' := by
  have hT : allPts cl wd many 1 (h - 1) ≤ 25 := by
    have h1 := allPts_le cl wd many (h - 1) 1
    have h2 : (h - 1) * (wd - 1) ≤ 5 * 5 := Nat.mul_le_mul (by omega) (by omega)
    omega
  obtain ⟨T, hTT⟩ : ∃ T, allPts cl wd many 1 (h - 1) = T := ⟨_, rfl⟩
  rw [hTT] at hT ⊢
  have HT := Aside0.mk hTT
  have HF := Aside0.mk hf
  clear hTT hf
  have HHI : Aside0 (∀ W, Below w.heap.size w W → Calls Try.prog 124 #[.pointer (some ⟨fb, 0, none⟩)] W fun e w' => e = .returned (.int .i64 h) ∧ w' = W) := ⟨fun W hW => by
    obtain ⟨g, rb, RA, rc, h1, h2, h3, h4, h5, h6⟩ := HF.out
    exact high_any _ _ h h W ((hW.cell (p := ⟨fb, 0, none⟩) h1).trans h3)⟩
  have HWI : Aside0 (∀ W, Below w.heap.size w W → Calls Try.prog 125 #[.pointer (some ⟨fb, 0, none⟩)] W fun e w' => e = .returned (.int .i64 wd) ∧ w' = W) := ⟨fun W hW => by
    obtain ⟨g, rb, RA, rc, h1, h2, h3, h4, h5, h6⟩ := HF.out
    obtain ⟨b1, b2, b3⟩ := h5 0 (by omega)
    exact wide_any _ g h h hh.1 _ wd wd W ((hW.cell (p := ⟨fb, 0, none⟩) h1).trans h3) ((hW.cell (p := ⟨g, 0, none⟩) h2).trans b2)⟩
  go_enter Try.func158, Try.ntmps158
  go_wp2
  go_loopw [5, 6] (fun s r wr => ∃ (i sm : Nat), r = .int .i64 i ∧ 1 ≤ i ∧ i ≤ h ∧ s = .int .i64 sm ∧ sm ≤ 25 ∧ Aside0 (sm + allPts cl wd many i (h - i) = T ∧ Below w.heap.size w wr)) (fun _ r _ => h - (intOf r).toNat)
  case atStart => exact ⟨1, 0, rfl, Nat.le_refl _, hh.1, rfl, by omega, ⟨by rw [Nat.zero_add]; exact HT.out, Below.refl _ _⟩⟩
  case round =>
    obtain ⟨i, sm, rfl, hi1, hih, rfl, hsm, HD⟩ := hrel
    obtain ⟨wo, rfl⟩ : ∃ wo : World, wo = wr := ⟨_, rfl⟩
    by_cases hlt : (i : Int) < (h : Int)
    · have hsp := allPts_split cl wd many (show i < h by omega)
      have HSP := Aside0.mk hsp
      clear hsp
      go_wp2_with fail
      refine (HHI.out _ HD.out.2).mono ?_
      rintro e w2 ⟨rfl, rfl⟩
      go_wp2
      go_loopw [5, 7] (fun s c w2 => ∃ (j sn : Nat), c = .int .i64 j ∧ 1 ≤ j ∧ j ≤ wd ∧ s = .int .i64 sn ∧ sn ≤ 25 ∧ Aside0 (sn + rowPts cl many i j (wd - j) + allPts cl wd many (i + 1) (h - (i + 1)) = T ∧ Below w.heap.size w w2)) (fun _ c _ => wd - (intOf c).toNat)
      case atStart => exact ⟨1, sm, rfl, Nat.le_refl _, hw.1, rfl, hsm, ⟨by have h1 := HD.out.1; have h2 := HSP.out; omega, HD.out.2⟩⟩
      case round =>
        obtain ⟨j, sn, rfl, hj1, hjw, rfl, hsn, HE⟩ := hrel
        by_cases hlj : (j : Int) < (wd : Int)
        · have hrs := rowPts_split cl many i (show j < wd by omega)
          have hfd := four_distinct (cl (i - 1) (j - 1)) (cl (i - 1) j) (cl i (j - 1)) (cl i j)
          obtain ⟨a, ha⟩ : ∃ a, cl (i - 1) (j - 1) = a := ⟨_, rfl⟩
          obtain ⟨b, hb⟩ : ∃ a, cl (i - 1) j = a := ⟨_, rfl⟩
          obtain ⟨c, hc⟩ : ∃ a, cl i (j - 1) = a := ⟨_, rfl⟩
          obtain ⟨d, hd⟩ : ∃ a, cl i j = a := ⟨_, rfl⟩
          have hm : meets cl i j = (firsts4 a b c d).length := by unfold meets; rw [ha, hb, hc, hd]
          rw [hm] at hrs
          rw [ha, hb, hc, hd] at hfd
          obtain ⟨g, rb, RA, rc, h1, h2, h3, h4, h5, h6⟩ := HF.out.below HE.out.2
          obtain ⟨a1, a2, a3⟩ := h5 (i - 1) (by omega)
          obtain ⟨b1, b2, b3⟩ := h5 i (by omega)
          have f1 := a3 (j - 1) (by omega)
          have f2 := a3 j (by omega)
          have f3 := b3 (j - 1) (by omega)
          have f4 := b3 j (by omega)
          rw [ha] at f1
          rw [hb] at f2
          rw [hc] at f3
          rw [hd] at f4
          have HRS := Aside0.mk hrs
          have HFD := Aside0.mk hfd
          clear hrs hfd ha hb hc hd hm h1 h2 h4 h5 h6 a1 a3 b1 b3
          obtain ⟨q1, hq1⟩ : ∃ q, rb (i - 1) = q := ⟨_, rfl⟩
          obtain ⟨q2, hq2⟩ : ∃ q, rb i = q := ⟨_, rfl⟩
          rw [hq1] at a2 f1 f2
          rw [hq2] at b2 f3 f4
          clear hq1 hq2
          have e1 : ((i : Int) - 1) = ((i - 1 : Nat) : Int) := by omega
          have e2 : ((j : Int) - 1) = ((j - 1 : Nat) : Int) := by omega
          have v1 : IntKind.i64.wrap ((i - 1 : Nat) : Int) = ((i - 1 : Nat) : Int) := by rw [IntKind.wrap_i64]; omega
          have v2 : IntKind.i64.wrap ((j - 1 : Nat) : Int) = ((j - 1 : Nat) : Int) := by rw [IntKind.wrap_i64]; omega
          have n1 : (0 : Int) ≤ ((i - 1 : Nat) : Int) := by omega
          have n2 : ((i - 1 : Nat) : Int) < (h : Int) := by omega
          have n3 : (0 : Int) ≤ ((j - 1 : Nat) : Int) := by omega
          have n4 : ((j - 1 : Nat) : Int) < (wd : Int) := by omega
          go_wp2_with fail
          refine (HWI.out _ HE.out.2).mono ?_
          rintro e w3 ⟨rfl, rfl⟩
          go_wp2_with fail
          refine wp_still_tail 44 (by kernel_rfl) (by kernel_rfl) ?_
          simp only [List.take_succ_cons, List.take_zero, List.drop_succ_cons, List.drop_zero]
          repeat still_step
          refine wpStill_nil ?_
          go_wp2_with fail
          refine Calls.mono (sort4_any w3.heap.size a b c d _ ?hB) ?_
          case hB => exact heap_alloc_new _ _
          rintro e w4 ⟨rfl, hg4, hh4⟩
          have HB4 : Aside0 (Below w.heap.size w w4) := ⟨Below.grown (by repeat (first | exact HE.out.2 | apply pw_below_drewN | apply below_alloc)) hg4 (by have := HE.out.2.size; simp; omega) (fun j e => by injection e with e; have := HE.out.2.size; omega)⟩
          have hcp := compact4_any w3.heap.size _ (by rw [(List.mergeSort_perm _ _).length_eq]; rfl) w4 hh4
          rw [HFD.out] at hcp
          obtain ⟨M, hM⟩ : ∃ M, (firsts4 a b c d).length = M := ⟨_, rfl⟩
          have hrs := HRS.out
          rw [hM] at hcp hrs
          have HCP := Aside0.mk hcp
          have HRM := Aside0.mk hrs
          clear hg4 hh4 hcp hrs hM HRS HFD f1 f2 f3 f4 a2 b2 h3 e1 e2 v1 v2 n1 n2 n3 n4
          by_cases hmm : (M : Int) = many
          · have t1 : ((M : Int) == many) = true := by rw [beq_iff_eq]; exact hmm
            have HMM := Aside0.mk hmm
            clear hmm
            go_wp2_with fail
            refine HCP.out.mono ?_
            rintro e w5 ⟨rfl, hg5⟩
            have HB5 : Aside0 (Below w.heap.size w w5) := ⟨HB4.out.grown hg5 HB4.out.size (fun j e => by injection e with e; have := HE.out.2.size; omega)⟩
            clear hg5
            have hr := HRM.out
            rw [if_pos HMM.out] at hr
            have hs1 : sn + 1 + rowPts cl many i (j + 1) (wd - (j + 1)) + allPts cl wd many (i + 1) (h - (i + 1)) = T := by have := HE.out.1; omega
            have hs2 : sn + 1 ≤ 25 := by omega
            have HS1 := Aside0.mk hs1
            clear hr hs1
            go_wp2
            go_roundw
            case rel => exact ⟨j + 1, sn + 1, by go_num, by omega, by omega, by go_num, hs2, ⟨HS1.out, HB5.out⟩⟩
            case measure => simp [intOf]; omega
          · have t1 : ((M : Int) == many) = false := by rw [beq_eq_false_iff_ne]; exact hmm
            have HMM := Aside0.mk hmm
            clear hmm
            go_wp2_with fail
            refine HCP.out.mono ?_
            rintro e w5 ⟨rfl, hg5⟩
            have HB5 : Aside0 (Below w.heap.size w w5) := ⟨HB4.out.grown hg5 HB4.out.size (fun j e => by injection e with e; have := HE.out.2.size; omega)⟩
            clear hg5
            have hr := HRM.out
            rw [if_neg HMM.out, Nat.zero_add] at hr
            have hs1 : sn + rowPts cl many i (j + 1) (wd - (j + 1)) + allPts cl wd many (i + 1) (h - (i + 1)) = T := by have := HE.out.1; omega
            have HS1 := Aside0.mk hs1
            clear hr hs1
            go_wp2
            go_roundw
            case rel => exact ⟨j + 1, sn, by go_num, by omega, by omega, rfl, hsn, ⟨HS1.out, HB5.out⟩⟩
            case measure => simp [intOf]; omega
        · have hjw2 : j = wd := by omega
          have hs1 : sn + allPts cl wd many (i + 1) (h - (i + 1)) = T := by
            have := HE.out.1
            rw [hjw2, Nat.sub_self] at this
            exact this
          have HS1 := Aside0.mk hs1
          clear hs1
          go_wp2_with fail
          refine (HWI.out _ HE.out.2).mono ?_
          rintro e w3 ⟨rfl, rfl⟩
          clear hjw2
          go_wp2
          go_roundw
          case rel => exact ⟨i + 1, sn, by go_num, by omega, by omega, rfl, hsn, ⟨HS1.out, HE.out.2⟩⟩
          case measure => simp [intOf]; omega
    · have hs1 : sm = T := by
        have := HD.out.1
        rw [show h - i = 0 by omega] at this
        exact this
      go_wp2_with fail
      refine (HHI.out _ HD.out.2).mono ?_
      rintro e w3 ⟨rfl, rfl⟩
      have HS1 := Aside0.mk hs1
      clear hs1
      go_wp2
      go_ret
      exact ⟨rfl, HD.out.2⟩
end Go.Proofs.Ytbpppchkgjcahaa
end
section
namespace Go.Proofs.Ytbpppchkgjcahaa
open Go.RowKit Go.Shelf Go.Proofs.YtbpppchkgjcahaaW.PrintWords Go.Proofs.YtbpppchkgjcahaaW.PrintMore
set_option linter.unusedVariables false
set_option linter.unusedSimpArgs false
def pointsP (p : List ByteArray) (many : Int) : Int := ((allPts (clP p) (wdP p) many 1 (p.length - 1) : Nat) : Int)
def plainP (p : List ByteArray) : Bool := planG p && (pointsP p 4 == 0)
theorem plain_any (fb h wd : Nat) (cl : Nat → Nat → Int) (boxes : List Box) (hh : 1 ≤ h ∧ h ≤ 6) (hw : 1 ≤ wd ∧ wd ≤ 6) (w : World) (hf : FloorR w fb h wd cl boxes) :
    Calls Try.prog 100 #[.pointer (some ⟨fb, 0, none⟩)] w fun e w' => e = .returned (.bool (((allPts cl wd 4 1 (h - 1) : Nat) : Int) == 0)) ∧ Below w.heap.size w w' := by
  have HPT := Aside0.mk (points_any fb h wd cl boxes hh hw w hf 4)
  clear hf
  obtain ⟨T, hT⟩ : ∃ T, allPts cl wd 4 1 (h - 1) = T := ⟨_, rfl⟩
  rw [hT] at HPT ⊢
  clear hT
  go_enter Try.func100, Try.ntmps100
  go_wp2_with fail
  refine HPT.out.mono ?_
  rintro e w2 ⟨rfl, hb2⟩
  have HB2 := Aside0.mk hb2
  clear hb2
  go_wp2_with fail
  go_ret
  exact ⟨rfl, HB2.out⟩
def PlainE (w w' : World) (p : List ByteArray) (e : Ending) : Prop := Below w.heap.size w w' ∧
  ((plainP p = true ∧ ∃ fb, e = .returned (.tuple #[.pointer (some ⟨fb, 0, none⟩), .bool true]) ∧ FloorR w' fb p.length (wdP p) (clP p) (boxesP p)) ∨
   (plainP p = false ∧ ∃ o, e = .returned (.tuple #[.pointer o, .bool false])))
set_option maxHeartbeats 4000000 in
theorem plainOf_any (A : Option Addr) (cap : Nat) (p : List ByteArray) (hp : SmallP p) (w : World) (hr0 : Kd.C Kd.string w A p.length p) (hc0 : p.length ≤ cap) :
    Calls Try.prog 67 #[.slice A p.length cap] w fun e w' => PlainE w w' p e := by
  have HFL := floorOf_any A cap p hp.1 hp.2 w hr0 hc0
  clear hr0
  go_enter Try.func67, Try.ntmps67
  go_wp2_with fail
  refine HFL.mono ?_
  rintro e w1 ⟨hb1, ⟨hpl, fb, base, rfl, hbase, hfl⟩ | ⟨hpl, o, rfl⟩⟩
  · have HB1 := Aside0.mk hb1
    have HR := Aside0.mk hfl.reads
    have hpc := plain_any fb p.length (wdP p) (clP p) (boxesP p) (planFlat hpl).high (planFlat hpl).wide w1 hfl.reads
    have hval : plainP p = (((allPts (clP p) (wdP p) 4 1 (p.length - 1) : Nat) : Int) == 0) := by unfold plainP; rw [hpl, Bool.true_and]; rfl
    rw [← hval] at hpc
    have HPC := Aside0.mk hpc
    clear hb1 hpl hfl hval hpc
    go_wp2_with fail
    refine HPC.out.mono ?_
    rintro e w2 ⟨rfl, hb2⟩
    have HB2 := Aside0.mk hb2
    clear hb2
    cases hv : plainP p with
    | true =>
      have HV := Aside0.mk hv
      clear hv
      go_wp2_with fail
      go_ret2
      exact ⟨HB1.out.trans (HB2.out.mono HB1.out.size), .inl ⟨HV.out, fb, rfl, HR.out.below HB2.out⟩⟩
    | false =>
      have HV := Aside0.mk hv
      clear hv
      go_wp2_with fail
      go_ret2
      exact ⟨HB1.out.trans (HB2.out.mono HB1.out.size), .inr ⟨HV.out, _, rfl⟩⟩
  · have HB1 := Aside0.mk hb1
    have hval : plainP p = false := by unfold plainP; rw [hpl]; rfl
    have HV := Aside0.mk hval
    clear hb1 hpl hval
    go_wp2_with fail
    go_ret2
    exact ⟨HB1.out, .inr ⟨HV.out, _, rfl⟩⟩
set_option maxHeartbeats 4000000 in
theorem wallPlain_any (A : Option Addr) (cap : Nat) (p : List ByteArray) (hp : SmallP p) (w : World) (hr0 : Kd.C Kd.string w A p.length p) (hc0 : p.length ≤ cap) :
    Calls Try.prog 40 #[.slice A p.length cap] w fun e w' => e = .returned (.bool (plainP p)) ∧ Below w.heap.size w w' := by
  have HFL := plainOf_any A cap p hp w hr0 hc0
  clear hr0
  go_enter Try.func40, Try.ntmps40
  go_wp2_with fail
  refine HFL.mono ?_
  rintro e w1 ⟨hb1, ⟨hpl, fb, rfl, hfl⟩ | ⟨hpl, o, rfl⟩⟩
  · have HB1 := Aside0.mk hb1
    have HV := Aside0.mk hpl
    clear hb1 hpl hfl
    go_wp2_with fail
    go_ret
    exact ⟨by rw [HV.out]; rfl, HB1.out⟩
  · have HB1 := Aside0.mk hb1
    have HV := Aside0.mk hpl
    clear hb1 hpl
    go_wp2_with fail
    go_ret
    exact ⟨by rw [HV.out]; rfl, HB1.out⟩
def impl_WallPlain.f (l0 : List ByteArray) : Option Bool := if SmallP l0 then some (plainP l0) else none
theorem impl_WallPlain.calls (A0 : Option Addr) (c0 : Nat) (l0 : List ByteArray) (r : Bool) (w : World) (hr0 : Kd.C Kd.string w A0 l0.length l0) (hc0 : l0.length ≤ c0) (h : impl_WallPlain.f l0 = some r) :
    Calls Try.prog 40 #[.slice A0 l0.length c0] w fun e w' => e = .returned (.bool r) ∧ Below w.heap.size w w' := by
  unfold impl_WallPlain.f at h
  split at h
  · rename_i hb; injection h with h; have := wallPlain_any A0 c0 l0 hb w hr0 hc0; rw [h] at this; exact this
  · cases h
end Go.Proofs.Ytbpppchkgjcahaa
end
