/- The program's WallEnds: ends of walls at the outline. -/
import Derived.Test.YtbpppchkgjcahaaKFShelf2M
namespace Go.Proofs.Ytbpppchkgjcahaa
open Go.RowKit Go.Shelf Go.Proofs.YtbpppchkgjcahaaW.PrintWords Go.Proofs.YtbpppchkgjcahaaW.PrintMore
set_option linter.unusedVariables false
set_option linter.unusedSimpArgs false
def sumE (L : List WallT) (h wd k : Nat) : Nat := ((L.take k).map (endW h wd)).sum
theorem sumE_succ (L : List WallT) (h wd : Nat) {k : Nat} (hk : k < L.length) : sumE L h wd (k + 1) = sumE L h wd k + endW h wd L[k] := by
  unfold sumE
  rw [List.take_succ_eq_append_getElem hk, List.map_append, List.sum_append]; rfl
theorem endW_le (h wd : Nat) (x : WallT) : endW h wd x ≤ 2 := by
  have k : ∀ (P : Prop) [Decidable P], (if P then 1 else 0 : Nat) ≤ 1 := fun P _ => by split <;> omega
  exact Nat.add_le_add (k _) (k _)
theorem sumE_le (L : List WallT) (h wd : Nat) : ∀ k, k ≤ L.length → sumE L h wd k ≤ 2 * k := by
  intro k
  induction k with
  | zero => intro _; exact Nat.zero_le _
  | succ k ih =>
    intro hk
    rw [sumE_succ L h wd (by omega)]
    have := ih (by omega)
    have := endW_le h wd (L[k]'(by omega))
    omega
theorem sumE_all (L : List WallT) (h wd : Nat) : sumE L h wd L.length = (L.map (endW h wd)).sum := by unfold sumE; rw [List.take_length]
def endsP (p : List ByteArray) : Int × Bool := if planG p then (((endN (clP p) p.length (wdP p) : Nat) : Int), true) else (0, false)
set_option maxRecDepth 100000 in
set_option maxHeartbeats 16000000 in
theorem wallEnds_any (A : Option Addr) (cap : Nat) (p : List ByteArray) (hp : SmallP p) (w : World) (hr0 : Kd.C Kd.string w A p.length p) (hc0 : p.length ≤ cap) :
    Calls Try.prog 39 #[.slice A p.length cap] w fun e w' => e = .returned (.tuple #[.int .i64 (endsP p).1, .bool (endsP p).2]) ∧ Below w.heap.size w w' := by
  have HFL := floorOf_any A cap p hp.1 hp.2 w hr0 hc0
  clear hr0
  go_enter Try.func39, Try.ntmps39
  go_wp2_with fail
  refine HFL.mono ?_
  rintro e w1 ⟨hb1, ⟨hpl, fb, base, rfl, hbase, hfl⟩ | ⟨hpl, o, rfl⟩⟩
  · have HB1 := Aside0.mk hb1
    have hfr := hfl.reads
    have hhi := (planFlat hpl).high
    have hwi := (planFlat hpl).wide
    have HWL : Aside0 (∀ W, Below w1.heap.size w1 W → Calls Try.prog 90 #[.pointer (some ⟨fb, 0, none⟩)] W fun e w' => (∃ A c, e = .returned (.slice A (wallsL (clP p) p.length (wdP p)).length c) ∧ WallsW w' W.heap.size (.slice A (wallsL (clP p) p.length (wdP p)).length c) (wallsL (clP p) p.length (wdP p))) ∧ Below W.heap.size W w') := ⟨fun W hW => walls_any fb p.length (wdP p) (clP p) (boxesP p) hhi hwi W (hfr.below hW)⟩
    have HENX := Aside0.mk (fun W (hW : Below w1.heap.size w1 W) x => end_any fb p.length (wdP p) (clP p) (boxesP p) hhi.1 W (hfr.below hW) x)
    have hval : endsP p = (((sumE (wallsL (clP p) p.length (wdP p)) p.length (wdP p) (wallsL (clP p) p.length (wdP p)).length : Nat) : Int), true) := by
      unfold endsP
      rw [if_pos hpl, sumE_all, walls_ends]
    have HV := Aside0.mk hval
    have hln := wallsL_len (clP p) hhi.2 hwi.2
    have hin : ∀ x ∈ wallsL (clP p) p.length (wdP p), x.2.2.1 + x.2.2.2 ≤ 6 := fun x hx => by
      have := (wallsL_in hx).2.2.1
      split at this <;> omega
    obtain ⟨L, hL⟩ : ∃ L, wallsL (clP p) p.length (wdP p) = L := ⟨_, rfl⟩
    obtain ⟨h, hh⟩ : ∃ h, p.length = h := ⟨_, rfl⟩
    obtain ⟨wd, hwd⟩ : ∃ wd, wdP p = wd := ⟨_, rfl⟩
    rw [hL] at HWL HV hln hin
    rw [hh, hwd] at HV HENX
    have HIN := Aside0.mk hin
    have HHE := Aside0.mk (And.intro hhi hwi)
    rw [hh, hwd] at HHE
    rw [hh]
    clear hb1 hpl hfl hfr hval hL hin hh hwd hhi hwi
    go_wp2_with fail
    refine (HWL.out _ (Below.refl _ _)).mono ?_
    rintro e w2 ⟨⟨A2, c2, rfl, hW2⟩, hb2⟩
    obtain ⟨n, hn⟩ : ∃ n, L.length = n := ⟨_, rfl⟩
    have HB2 := Aside0.mk hb2
    have HW2 := Aside0.mk hW2
    have HN := Aside0.mk hn
    clear hb2 hW2
    rw [hn] at hln ⊢
    have HW3 : Aside0 (WallsW w2 w1.heap.size (.slice A2 n c2) L) := ⟨by rw [← hn]; exact HW2.out⟩
    clear hn HW2
    go_wp2
    go_loopw [6, 19] (fun s i wr => ∃ (k sm : Nat), i = .int .i64 k ∧ k ≤ n ∧ s = .int .i64 sm ∧ Aside0 (sm = sumE L h wd k ∧ WallsW wr w1.heap.size (.slice A2 n c2) L ∧ Below w1.heap.size w1 wr)) (fun _ i _ => n - (intOf i).toNat)
    case atStart => exact ⟨0, 0, rfl, Nat.zero_le _, rfl, ⟨rfl, HW3.out, HB2.out⟩⟩
    case round =>
      obtain ⟨k, sm, rfl, hk, rfl, HD⟩ := hrel
      by_cases hlt : (k : Int) < (n : Int)
      · obtain ⟨g, c9, hA, hc9, hg1, hg2, ⟨cs9, hcs9⟩, hcell⟩ := HD.out.2.1.form (by rw [HN.out]; omega)
        injection hA with hA hA2 hA3
        subst hA hA3
        have hkl : k < L.length := by rw [HN.out]; omega
        obtain ⟨f0, f1, f2, f3⟩ := hcell k hkl
        have HS1 := Aside0.mk (sumE_succ L h wd hkl)
        have hsl := sumE_le L h wd k (by omega)
        have hin := HIN.out _ (List.getElem_mem hkl)
        obtain ⟨⟨lv, y1, y2, y3⟩, hx⟩ : ∃ x, L[k] = x := ⟨_, rfl⟩
        rw [hx] at f0 f1 f2 f3 hin HS1
        dsimp only at f0 f1 f2 f3 hin
        have HSM := Aside0.mk HD.out.1.symm
        have hsm : sm ≤ 200 := by rw [HD.out.1]; omega
        have n9 : (n : Int) ≤ (c2 : Int) := by rw [HN.out] at hc9; omega
        have HG2 := Aside0.mk hg2
        have HG1 := Aside0.mk hg1
        have HA2 := Aside0.mk hA2
        obtain ⟨E, hE⟩ : ∃ E, (if lv then wd else h) = E := ⟨_, rfl⟩
        have HE := Aside0.mk hE
        have hEE : E ≤ 6 := by have h1 := HHE.out.1.2; have h2 := HHE.out.2.2; rw [← hE]; split <;> omega
        have hC4 := heap_alloc_new wr (.cells #[.bool lv, .int .i64 (y1 : Int), .int .i64 (y2 : Int), .int .i64 (y3 : Int)] 102)
        have HC4 : Aside0 ((wr.alloc (.cells #[.bool lv, .int .i64 (y1 : Int), .int .i64 (y2 : Int), .int .i64 (y3 : Int)] 102)).cell? ⟨wr.heap.size, 0, none⟩ = some (.bool lv) ∧ (wr.alloc (.cells #[.bool lv, .int .i64 (y1 : Int), .int .i64 (y2 : Int), .int .i64 (y3 : Int)] 102)).cell? ⟨wr.heap.size, 1, none⟩ = some (.int .i64 (y1 : Int)) ∧ (wr.alloc (.cells #[.bool lv, .int .i64 (y1 : Int), .int .i64 (y2 : Int), .int .i64 (y3 : Int)] 102)).cell? ⟨wr.heap.size, 2, none⟩ = some (.int .i64 (y2 : Int)) ∧ (wr.alloc (.cells #[.bool lv, .int .i64 (y1 : Int), .int .i64 (y2 : Int), .int .i64 (y3 : Int)] 102)).cell? ⟨wr.heap.size, 3, none⟩ = some (.int .i64 (y3 : Int))) := ⟨by
          rw [blk_cell hC4 0, blk_cell hC4 1, blk_cell hC4 2, blk_cell hC4 3]
          exact ⟨rfl, rfl, rfl, rfl⟩⟩
        have HBA : Aside0 (Below w1.heap.size w1 (wr.alloc (.cells #[.bool lv, .int .i64 (y1 : Int), .int .i64 (y2 : Int), .int .i64 (y3 : Int)] 102))) := ⟨HD.out.2.2.alloc HD.out.2.2.size _⟩
        have HEN : Aside0 (∀ W, Below w1.heap.size w1 W → Calls Try.prog 91 #[.pointer (some ⟨fb, 0, none⟩), .agg #[.bool lv, .int .i64 (y1 : Int), .int .i64 (y2 : Int), .int .i64 (y3 : Int)]] W fun e w' => e = .returned (.int .i64 (E : Int)) ∧ Below W.heap.size W w') := ⟨fun W hW => by have := HENX.out W hW (lv, y1, y2, y3); dsimp only at this; rw [hE] at this; exact this⟩
        have HFIB : Aside0 (∀ w3, Below (wr.heap.size + 1) (wr.alloc (.cells #[.bool lv, .int .i64 (y1 : Int), .int .i64 (y2 : Int), .int .i64 (y3 : Int)] 102)) w3 → Below w1.heap.size w1 w3) := ⟨fun w3 h3 => HBA.out.trans (h3.mono (by have := HD.out.2.2.size; omega))⟩
        have HFIN : Aside0 (∀ w3, Below (wr.heap.size + 1) (wr.alloc (.cells #[.bool lv, .int .i64 (y1 : Int), .int .i64 (y2 : Int), .int .i64 (y3 : Int)] 102)) w3 → WallsW w3 w1.heap.size (.slice (some ⟨g, 0, none⟩) n c2) L) := ⟨fun w3 h3 => HD.out.2.1.below (((Below.refl _ _).alloc (Nat.le_refl _) _).trans (h3.mono (by omega)))⟩
        have v1 : IntKind.i64.wrap ((y2 : Int) + (y3 : Int)) = (y2 : Int) + (y3 : Int) := by rw [IntKind.wrap_i64]; omega
        clear hcs9 hcell hx hg2 hg1 hA2 hc9 hkl hC4 hE hsl
        by_cases c1 : y2 = 0 <;> by_cases c2 : y2 + y3 = E
        · have HST : Aside0 (sumE L h wd (k + 1) = sm + 1 + 1) := ⟨by rw [HS1.out, HSM.out]; unfold endW; dsimp only; rw [if_pos c1, show (if lv then wd else h) = E from HE.out, if_pos c2]⟩
          have d1 : ((y2 : Int) == 0) = true := by rw [beq_iff_eq]; omega
          have d2 : (((y2 : Int) + (y3 : Int)) == (E : Int)) = true := by rw [beq_iff_eq]; omega
          clear c1 c2
          go_wp2_with fail
          go_region_held3 (fun w' => w'.cell? ⟨wr.heap.size, 0, none⟩ = some (.bool lv) ∧ w'.cell? ⟨wr.heap.size, 1, none⟩ = some (.int .i64 (y1 : Int)) ∧ w'.cell? ⟨wr.heap.size, 2, none⟩ = some (.int .i64 (y2 : Int)) ∧ w'.cell? ⟨wr.heap.size, 3, none⟩ = some (.int .i64 (y3 : Int))) (first
            | exact HC4.out
            | exact HC4x.out
            | (go_simp)) ((go_at_call 91; refine Calls.mono (HEN.out _ (by repeat (first | exact HBA.out | apply pw_below_drewN))) ?_; rintro e w3 ⟨rfl, hb3⟩; have HB3 : Aside0 (Below (wr.heap.size + 1) (wr.alloc (.cells #[.bool lv, .int .i64 (y1 : Int), .int .i64 (y2 : Int), .int .i64 (y3 : Int)] 102)) w3) := ⟨⟨hb3.os, hb3.tape, hb3.output, hb3.size, fun q hq => hb3.block q (by simp; omega)⟩⟩; have HC4x : Aside0 (w3.cell? ⟨wr.heap.size, 0, none⟩ = some (.bool lv) ∧ w3.cell? ⟨wr.heap.size, 1, none⟩ = some (.int .i64 (y1 : Int)) ∧ w3.cell? ⟨wr.heap.size, 2, none⟩ = some (.int .i64 (y2 : Int)) ∧ w3.cell? ⟨wr.heap.size, 3, none⟩ = some (.int .i64 (y3 : Int))) := ⟨by have h9 : ∀ o, w3.cell? ⟨wr.heap.size, o, none⟩ = (wr.alloc (.cells #[.bool lv, .int .i64 (y1 : Int), .int .i64 (y2 : Int), .int .i64 (y3 : Int)] 102)).cell? ⟨wr.heap.size, o, none⟩ := fun o => hb3.cell (p := ⟨wr.heap.size, o, none⟩) (by simp); rw [h9, h9, h9, h9]; exact HC4.out⟩; clear hb3))
          all_goals
            go_wp2
            go_roundw
            case rel => exact ⟨k + 1, sm + 1 + 1, by go_num, by omega, by first | rfl | go_num, ⟨HST.out.symm, HFIN.out _ HB3.out, HFIB.out _ HB3.out⟩⟩
            case measure => simp [intOf]; omega
        · have HST : Aside0 (sumE L h wd (k + 1) = sm + 1) := ⟨by rw [HS1.out, HSM.out]; unfold endW; dsimp only; rw [if_pos c1, show (if lv then wd else h) = E from HE.out, if_neg c2]⟩
          have d1 : ((y2 : Int) == 0) = true := by rw [beq_iff_eq]; omega
          have d2 : (((y2 : Int) + (y3 : Int)) == (E : Int)) = false := by rw [beq_eq_false_iff_ne]; omega
          clear c1 c2
          go_wp2_with fail
          go_region_held3 (fun w' => w'.cell? ⟨wr.heap.size, 0, none⟩ = some (.bool lv) ∧ w'.cell? ⟨wr.heap.size, 1, none⟩ = some (.int .i64 (y1 : Int)) ∧ w'.cell? ⟨wr.heap.size, 2, none⟩ = some (.int .i64 (y2 : Int)) ∧ w'.cell? ⟨wr.heap.size, 3, none⟩ = some (.int .i64 (y3 : Int))) (first
            | exact HC4.out
            | exact HC4x.out
            | (go_simp)) ((go_at_call 91; refine Calls.mono (HEN.out _ (by repeat (first | exact HBA.out | apply pw_below_drewN))) ?_; rintro e w3 ⟨rfl, hb3⟩; have HB3 : Aside0 (Below (wr.heap.size + 1) (wr.alloc (.cells #[.bool lv, .int .i64 (y1 : Int), .int .i64 (y2 : Int), .int .i64 (y3 : Int)] 102)) w3) := ⟨⟨hb3.os, hb3.tape, hb3.output, hb3.size, fun q hq => hb3.block q (by simp; omega)⟩⟩; have HC4x : Aside0 (w3.cell? ⟨wr.heap.size, 0, none⟩ = some (.bool lv) ∧ w3.cell? ⟨wr.heap.size, 1, none⟩ = some (.int .i64 (y1 : Int)) ∧ w3.cell? ⟨wr.heap.size, 2, none⟩ = some (.int .i64 (y2 : Int)) ∧ w3.cell? ⟨wr.heap.size, 3, none⟩ = some (.int .i64 (y3 : Int))) := ⟨by have h9 : ∀ o, w3.cell? ⟨wr.heap.size, o, none⟩ = (wr.alloc (.cells #[.bool lv, .int .i64 (y1 : Int), .int .i64 (y2 : Int), .int .i64 (y3 : Int)] 102)).cell? ⟨wr.heap.size, o, none⟩ := fun o => hb3.cell (p := ⟨wr.heap.size, o, none⟩) (by simp); rw [h9, h9, h9, h9]; exact HC4.out⟩; clear hb3))
          all_goals
            go_wp2
            go_roundw
            case rel => exact ⟨k + 1, sm + 1, by go_num, by omega, by first | rfl | go_num, ⟨HST.out.symm, HFIN.out _ HB3.out, HFIB.out _ HB3.out⟩⟩
            case measure => simp [intOf]; omega
        · have HST : Aside0 (sumE L h wd (k + 1) = sm + 1) := ⟨by rw [HS1.out, HSM.out]; unfold endW; dsimp only; rw [if_neg c1, show (if lv then wd else h) = E from HE.out, if_pos c2]⟩
          have d1 : ((y2 : Int) == 0) = false := by rw [beq_eq_false_iff_ne]; omega
          have d2 : (((y2 : Int) + (y3 : Int)) == (E : Int)) = true := by rw [beq_iff_eq]; omega
          clear c1 c2
          go_wp2_with fail
          go_region_held3 (fun w' => w'.cell? ⟨wr.heap.size, 0, none⟩ = some (.bool lv) ∧ w'.cell? ⟨wr.heap.size, 1, none⟩ = some (.int .i64 (y1 : Int)) ∧ w'.cell? ⟨wr.heap.size, 2, none⟩ = some (.int .i64 (y2 : Int)) ∧ w'.cell? ⟨wr.heap.size, 3, none⟩ = some (.int .i64 (y3 : Int))) (first
            | exact HC4.out
            | exact HC4x.out
            | (go_simp)) ((go_at_call 91; refine Calls.mono (HEN.out _ (by repeat (first | exact HBA.out | apply pw_below_drewN))) ?_; rintro e w3 ⟨rfl, hb3⟩; have HB3 : Aside0 (Below (wr.heap.size + 1) (wr.alloc (.cells #[.bool lv, .int .i64 (y1 : Int), .int .i64 (y2 : Int), .int .i64 (y3 : Int)] 102)) w3) := ⟨⟨hb3.os, hb3.tape, hb3.output, hb3.size, fun q hq => hb3.block q (by simp; omega)⟩⟩; have HC4x : Aside0 (w3.cell? ⟨wr.heap.size, 0, none⟩ = some (.bool lv) ∧ w3.cell? ⟨wr.heap.size, 1, none⟩ = some (.int .i64 (y1 : Int)) ∧ w3.cell? ⟨wr.heap.size, 2, none⟩ = some (.int .i64 (y2 : Int)) ∧ w3.cell? ⟨wr.heap.size, 3, none⟩ = some (.int .i64 (y3 : Int))) := ⟨by have h9 : ∀ o, w3.cell? ⟨wr.heap.size, o, none⟩ = (wr.alloc (.cells #[.bool lv, .int .i64 (y1 : Int), .int .i64 (y2 : Int), .int .i64 (y3 : Int)] 102)).cell? ⟨wr.heap.size, o, none⟩ := fun o => hb3.cell (p := ⟨wr.heap.size, o, none⟩) (by simp); rw [h9, h9, h9, h9]; exact HC4.out⟩; clear hb3))
          all_goals
            go_wp2
            go_roundw
            case rel => exact ⟨k + 1, sm + 1, by go_num, by omega, by first | rfl | go_num, ⟨HST.out.symm, HFIN.out _ HB3.out, HFIB.out _ HB3.out⟩⟩
            case measure => simp [intOf]; omega
        · have HST : Aside0 (sumE L h wd (k + 1) = sm) := ⟨by rw [HS1.out, HSM.out]; unfold endW; dsimp only; rw [if_neg c1, show (if lv then wd else h) = E from HE.out, if_neg c2]; rfl⟩
          have d1 : ((y2 : Int) == 0) = false := by rw [beq_eq_false_iff_ne]; omega
          have d2 : (((y2 : Int) + (y3 : Int)) == (E : Int)) = false := by rw [beq_eq_false_iff_ne]; omega
          clear c1 c2
          go_wp2_with fail
          go_region_held3 (fun w' => w'.cell? ⟨wr.heap.size, 0, none⟩ = some (.bool lv) ∧ w'.cell? ⟨wr.heap.size, 1, none⟩ = some (.int .i64 (y1 : Int)) ∧ w'.cell? ⟨wr.heap.size, 2, none⟩ = some (.int .i64 (y2 : Int)) ∧ w'.cell? ⟨wr.heap.size, 3, none⟩ = some (.int .i64 (y3 : Int))) (first
            | exact HC4.out
            | exact HC4x.out
            | (go_simp)) ((go_at_call 91; refine Calls.mono (HEN.out _ (by repeat (first | exact HBA.out | apply pw_below_drewN))) ?_; rintro e w3 ⟨rfl, hb3⟩; have HB3 : Aside0 (Below (wr.heap.size + 1) (wr.alloc (.cells #[.bool lv, .int .i64 (y1 : Int), .int .i64 (y2 : Int), .int .i64 (y3 : Int)] 102)) w3) := ⟨⟨hb3.os, hb3.tape, hb3.output, hb3.size, fun q hq => hb3.block q (by simp; omega)⟩⟩; have HC4x : Aside0 (w3.cell? ⟨wr.heap.size, 0, none⟩ = some (.bool lv) ∧ w3.cell? ⟨wr.heap.size, 1, none⟩ = some (.int .i64 (y1 : Int)) ∧ w3.cell? ⟨wr.heap.size, 2, none⟩ = some (.int .i64 (y2 : Int)) ∧ w3.cell? ⟨wr.heap.size, 3, none⟩ = some (.int .i64 (y3 : Int))) := ⟨by have h9 : ∀ o, w3.cell? ⟨wr.heap.size, o, none⟩ = (wr.alloc (.cells #[.bool lv, .int .i64 (y1 : Int), .int .i64 (y2 : Int), .int .i64 (y3 : Int)] 102)).cell? ⟨wr.heap.size, o, none⟩ := fun o => hb3.cell (p := ⟨wr.heap.size, o, none⟩) (by simp); rw [h9, h9, h9, h9]; exact HC4.out⟩; clear hb3))
          all_goals
            go_wp2
            go_roundw
            case rel => exact ⟨k + 1, sm, by go_num, by omega, by first | rfl | go_num, ⟨HST.out.symm, HFIN.out _ HB3.out, HFIB.out _ HB3.out⟩⟩
            case measure => simp [intOf]; omega
      · have hkn : k = n := by omega
        have HV2 : Aside0 (endsP p = ((sm : Int), true)) := ⟨by rw [HV.out, HD.out.1, HN.out, hkn]⟩
        clear hkn
        go_wp2
        go_ret2
        exact ⟨by rw [HV2.out]; rfl, HB1.out.trans (HD.out.2.2.mono HB1.out.size)⟩
  · have HB1 := Aside0.mk hb1
    have hval : endsP p = (0, false) := by unfold endsP; rw [hpl]; rfl
    have HV := Aside0.mk hval
    clear hb1 hpl hval
    go_wp2_with fail
    go_ret2
    exact ⟨by rw [HV.out]; rfl, HB1.out⟩
end Go.Proofs.Ytbpppchkgjcahaa
