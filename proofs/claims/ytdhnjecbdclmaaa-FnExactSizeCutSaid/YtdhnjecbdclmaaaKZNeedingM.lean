/- Texts of this claim's, joined by a program: ZNeeding, ZSizeCut, ZStuck, ZLetters, ZSpecStuck, ZCutStuckP, ZPlanRoom, ZSpecSize, ZSizeIs. -/
import Derived.Test.YtdhnjecbdclmaaaKZFourDM
import Derived.Test.YtdhnjecbdclmaaaKZContains
import Derived.Test.YtdhnjecbdclmaaaKZFoldI
import Derived.Test.YtdhnjecbdclmaaaKZSpecTextM
import Derived.Test.YtdhnjecbdclmaaaKZFirstM
import Derived.Test.YtdhnjecbdclmaaaKZL9x
section
namespace Go.Proofs.Ytdhnjecbdclmaaa
open Go.RowKit Go.Shelf Go.Proofs.YtdhnjecbdclmaaaW.PrintWords Go.Proofs.YtdhnjecbdclmaaaW.PrintMore
set_option linter.unusedVariables false
set_option linter.unusedSimpArgs false
def wrongP (n : Int) : Bool := decide (n < 1) || decide (9 < n)
set_option maxHeartbeats 2000000 in
theorem wrong_any (n : Int) (w : World) : Calls Try.prog 190 #[.int .i64 n] w fun e w' => e = .returned (.bool (wrongP n)) ∧ w = w' := by
  unfold wrongP
  by_cases h1 : n < 1
  · have d1 : decide (n < 1) = true := decide_eq_true h1
    rw [d1, Bool.true_or]
    go_enter Try.func190, Try.ntmps190
    go_wp2
    go_ret
    exact ⟨rfl, rfl⟩
  · have d1 : decide (n < 1) = false := decide_eq_false h1
    rw [d1, Bool.false_or]
    go_enter Try.func190, Try.ntmps190
    go_wp2
    go_ret
    exact ⟨rfl, rfl⟩
set_option maxRecDepth 100000 in
set_option maxHeartbeats 4000000 in
theorem indexI_any (A : Option Addr) (ch : Nat) (xs : List Int) (hh : xs.length ≤ 1000) (w : World) (hC : Kd.C (Kd.int .i64) w A xs.length xs) :
    Calls Try.prog 211 #[.slice A xs.length ch, .func (.func 190) #[] #[]] w fun e w' => Tells xs.length (fun k => wrongP (xs.getD k 0)) e ∧ w = w' := by
  have HC := Aside0.mk hC
  have HF := Aside0.mk (fun n => wrong_any n w)
  obtain ⟨h, hl⟩ : ∃ h, xs.length = h := ⟨_, rfl⟩
  rw [hl] at hh hC ⊢
  have HL := Aside0.mk hl
  clear hC hl
  go_enter Try.func211, Try.ntmps211
  go_wp2_with fail
  go_loopg [8] h (fun g s8 wr => ∃ r : Nat, s8 = .int .i64 r ∧ r ≤ h ∧ h - r ≤ g ∧ wr = w ∧ Aside0 (∀ k, k < r → wrongP (xs.getD k 0) = false))
  case atStart => exact ⟨0, rfl, by omega, by omega, rfl, ⟨fun k hk => absurd hk (by omega)⟩⟩
  case round =>
    obtain ⟨r, rfl, hr, hg, rfl, HP⟩ := hrel
    by_cases hlt : (r : Int) < (h : Int)
    · obtain ⟨ad, rfl, g0⟩ := Kd.at_int HC.out (r : Int) (by omega) (by rw [HL.out]; omega)
      rw [Int.toNat_natCast] at g0
      have e0 : rd xs (r : Int) = xs.getD r 0 := rfl
      rw [e0] at g0
      have hr0 : (0 : Int) ≤ (r : Int) := by omega
      cases hp : wrongP (xs.getD r 0) with
      | true =>
        have HF2 := HF.out (xs.getD r 0)
        rw [hp] at HF2
        obtain ⟨x, hx⟩ : ∃ x, xs.getD r 0 = x := ⟨_, rfl⟩
        have HPP := Aside0.mk hp
        rw [hx] at HF2 g0
        clear hp hx
        go_wp2_with fail
        refine HF2.mono ?_
        rintro e w' ⟨rfl, rfl⟩
        go_wp2_with fail
        go_ret
        exact ⟨⟨_, rfl, by rw [any_upto (p := fun k => wrongP (xs.getD k 0)) (by omega) HPP.out]; exact decide_eq_true hr0⟩, rfl⟩
      | false =>
        have HF2 := HF.out (xs.getD r 0)
        rw [hp] at HF2
        obtain ⟨x, hx⟩ : ∃ x, xs.getD r 0 = x := ⟨_, rfl⟩
        have HPP := Aside0.mk hp
        rw [hx] at HF2 g0
        clear hp hx
        go_wp2_with fail
        refine HF2.mono ?_
        rintro e w' ⟨rfl, rfl⟩
        go_wp2_with fail
        go_roundg (h - (r + 1))
        case measure => omega
        case rel => exact ⟨r + 1, by go_num, by omega, Nat.le_refl _, rfl, ⟨fun k hk => if e : k = r then by rw [e]; exact HPP.out else HP.out k (by omega)⟩⟩
    · have hrh : r = h := by omega
      subst hrh
      go_wp2_with fail
      go_ret
      refine ⟨⟨_, rfl, ?_⟩, rfl⟩
      have : (List.range r).any (fun k => wrongP (xs.getD k 0)) = false := by
        rw [List.any_eq_false]
        intro k hk
        rw [HP.out k (List.mem_range.1 hk)]; simp
      show _ = (List.range r).any fun k => wrongP (xs.getD k 0)
      rw [this]; rfl
theorem containsI_any (A : Option Addr) (ch : Nat) (xs : List Int) (hh : xs.length ≤ 1000) (w : World) (hC : Kd.C (Kd.int .i64) w A xs.length xs) :
    Calls Try.prog 191 #[.slice A xs.length ch, .func (.func 190) #[] #[]] w fun e w' => e = .returned (.bool ((List.range xs.length).any fun k => wrongP (xs.getD k 0))) ∧ w = w' := by
  have HI := indexI_any A ch xs hh w hC
  obtain ⟨b, hb⟩ : ∃ b, ((List.range xs.length).any fun k => wrongP (xs.getD k 0)) = b := ⟨_, rfl⟩
  have HBB := Aside0.mk hb
  rw [hb]
  clear hC hb
  go_enter Try.func191, Try.ntmps191
  go_wp2_with fail
  refine HI.mono ?_
  rintro e w' ⟨⟨k, rfl, hk⟩, rfl⟩
  have HK := Aside0.mk hk
  clear hk
  go_wp2_with fail
  go_ret
  exact ⟨by rw [← HBB.out, ← HK.out]; rfl, rfl⟩
def needsG (p : List ByteArray) (needs : List Int) : Bool := plainP p && (decide (needs.length = (boxesP p).length) && !((List.range needs.length).any fun k => wrongP (needs.getD k 0)))
def NeedE (w w' : World) (p : List ByteArray) (needs : List Int) (e : Ending) : Prop := Below w.heap.size w w' ∧
  ((needsG p needs = true ∧ ∃ fb, e = .returned (.tuple #[.pointer (some ⟨fb, 0, none⟩), .bool true]) ∧ FloorR w' fb p.length (wdP p) (clP p) (boxesP p)) ∨
   (needsG p needs = false ∧ e = .returned (.tuple #[.pointer none, .bool false])))
theorem FloorR.rooms {w : World} {fb h wd : Nat} {cl : Nat → Nat → Int} {boxes : List Box} (hf : FloorR w fb h wd cl boxes) : ∃ RA rc, w.cell? ⟨fb, 1, none⟩ = some (.slice RA boxes.length rc) := by
  obtain ⟨g, rb, RA, rc, h1, h2, h3, h4, h5, h6⟩ := hf
  exact ⟨RA, rc, h4⟩
set_option maxRecDepth 100000 in
set_option maxHeartbeats 4000000 in
theorem needing_any (A : Option Addr) (cap : Nat) (p : List ByteArray) (hp : SmallP p) (lb lc : Nat) (B : Option Addr) (nc : Nat) (needs : List Int) (hnl : needs.length ≤ 1048576) (w : World) (hr0 : Kd.C Kd.string w A p.length p) (hc0 : p.length ≤ cap)
    (hlb : lb < w.heap.size) (hl : w.cell? ⟨lb, 0, none⟩ = some (.slice B needs.length nc)) (hN : Kd.C (Kd.int .i64) w B needs.length needs) :
    Calls Try.prog 135 #[.slice A p.length cap, .slice (some ⟨lb, 0, none⟩) 1 lc] w fun e w' => NeedE w w' p needs e := by
  have HPO := plainOf_any A cap p hp w hr0 hc0
  have HN := Aside0.mk hN
  have HP := Aside0.mk hp
  clear hr0 hN hp
  go_enter Try.func135, Try.ntmps135
  go_wp2_with fail
  refine HPO.mono ?_
  rintro e w1 ⟨hb1, ⟨hpl, fb, rfl, hfl⟩ | ⟨hpl, o, rfl⟩⟩
  · have HB1 := Aside0.mk hb1
    have HPL := Aside0.mk hpl
    have HF := Aside0.mk hfl
    obtain ⟨RA, rc, hrm⟩ := hfl.rooms
    have hl1 : w1.cell? ⟨lb, 0, none⟩ = some (.slice B needs.length nc) := (hb1.cell (p := ⟨lb, 0, none⟩) hlb).trans hl
    have hN1 := Kd.C_below HN.out hb1
    have hbl : (boxesP p).length ≤ 9 := by
      have hpg : planG p = true := by unfold plainP at hpl; exact (Bool.and_eq_true_iff.1 hpl).1
      exact (planFlat hpg).few
    clear hb1 hpl hfl hl
    by_cases hlen : needs.length = (boxesP p).length
    · obtain ⟨b, hb⟩ : ∃ b, ((List.range needs.length).any fun k => wrongP (needs.getD k 0)) = b := ⟨_, rfl⟩
      have HCI := containsI_any B nc needs (by omega) w1 hN1
      rw [hb] at HCI
      have HLEN := Aside0.mk hlen
      have HBB := Aside0.mk hb
      obtain ⟨m, hm⟩ : ∃ m, (boxesP p).length = m := ⟨_, rfl⟩
      have HM := Aside0.mk hm
      rw [hlen, hm] at HCI hl1
      rw [hm] at hrm
      have e1 : ((m : Int) != (m : Int)) = false := by simp
      clear hlen hb hm hN1 hbl
      cases b with
      | true =>
        go_wp2_with fail
        go_loopg [20] 1 (fun g s20 wr => ∃ i : Nat, s20 = .int .i64 i ∧ i ≤ 0 ∧ 1 - i ≤ g ∧ wr = w1)
        case atStart => exact ⟨0, rfl, by omega, by omega, rfl⟩
        case round =>
          obtain ⟨i, rfl, hi, hg, rfl⟩ := hrel
          obtain rfl : i = 0 := by omega
          go_wp2_with fail
          refine HCI.mono ?_
          rintro e w2 ⟨rfl, rfl⟩
          go_wp2_with fail
          go_ret2
          exact ⟨HB1.out, .inr ⟨by unfold needsG; rw [HBB.out]; simp, rfl⟩⟩
      | false =>
        go_wp2_with fail
        go_loopg [20] 1 (fun g s20 wr => ∃ i : Nat, s20 = .int .i64 i ∧ i ≤ 1 ∧ 1 - i ≤ g ∧ wr = w1)
        case atStart => exact ⟨0, rfl, by omega, by omega, rfl⟩
        case round =>
          obtain ⟨i, rfl, hi, hg, rfl⟩ := hrel
          by_cases hi0 : i = 0
          · subst hi0
            go_wp2_with fail
            refine HCI.mono ?_
            rintro e w2 ⟨rfl, rfl⟩
            go_wp2_with fail
            go_roundg 0
            case measure => omega
            case rel => exact ⟨1, by go_num, by omega, by omega, rfl⟩
          · obtain rfl : i = 1 := by omega
            go_wp2_with fail
            go_ret2
            exact ⟨HB1.out, .inl ⟨by unfold needsG; rw [HPL.out, HBB.out, decide_eq_true HLEN.out]; rfl, fb, rfl, HF.out⟩⟩
    · have HLEN := Aside0.mk hlen
      obtain ⟨m, hm⟩ : ∃ m, (boxesP p).length = m := ⟨_, rfl⟩
      obtain ⟨n, hn⟩ : ∃ n, needs.length = n := ⟨_, rfl⟩
      rw [hn] at hl1
      rw [hm] at hrm
      rw [hm, hn] at hlen
      have e1 : ((n : Int) != (m : Int)) = true := by simp; omega
      clear hlen hm hn hN1 hbl
      go_wp2_with fail
      go_loopg [20] 1 (fun g s20 wr => ∃ i : Nat, s20 = .int .i64 i ∧ i ≤ 0 ∧ 1 - i ≤ g ∧ wr = w1)
      case atStart => exact ⟨0, rfl, by omega, by omega, rfl⟩
      case round =>
        obtain ⟨i, rfl, hi, hg, rfl⟩ := hrel
        obtain rfl : i = 0 := by omega
        go_wp2_with fail
        go_ret2
        exact ⟨HB1.out, .inr ⟨by unfold needsG; rw [decide_eq_false HLEN.out]; simp, rfl⟩⟩
  · have HB1 := Aside0.mk hb1
    have HPL := Aside0.mk hpl
    clear hb1 hpl
    go_wp2_with fail
    go_ret2
    exact ⟨HB1.out, .inr ⟨by unfold needsG; rw [HPL.out]; rfl, rfl⟩⟩
end Go.Proofs.Ytdhnjecbdclmaaa
end
section
namespace Go.Proofs.Ytdhnjecbdclmaaa
open Go.RowKit Go.Shelf Go.Proofs.YtdhnjecbdclmaaaW.PrintWords Go.Proofs.YtdhnjecbdclmaaaW.PrintMore
set_option linter.unusedVariables false
set_option linter.unusedSimpArgs false
def sizeO (p : List ByteArray) (needs : List Int) : Option Int := sizeL (clP p) (boxesP p) (needOf needs) 13 (0, 0, p.length, wdP p)
def sizeCutP (p : List ByteArray) (needs : List Int) : Int × Bool := if needsG p needs then ((sizeO p needs).getD 0, (sizeO p needs).isSome) else (0, false)
theorem needsG_parts {p : List ByteArray} {needs : List Int} (h : needsG p needs = true) : planG p = true ∧ needs.length = (boxesP p).length ∧ ∀ x ∈ needs, (0 : Int) ≤ x ∧ x ≤ 9 := by
  unfold needsG at h
  obtain ⟨h1, h2⟩ := Bool.and_eq_true_iff.1 h
  obtain ⟨h3, h4⟩ := Bool.and_eq_true_iff.1 h2
  unfold plainP at h1
  refine ⟨(Bool.and_eq_true_iff.1 h1).1, of_decide_eq_true h3, fun x hx => ?_⟩
  obtain ⟨k, hk, rfl⟩ := List.getElem_of_mem hx
  have h5 : ((List.range needs.length).any fun k => wrongP (needs.getD k 0)) = false := by
    cases e : ((List.range needs.length).any fun k => wrongP (needs.getD k 0)) with
    | false => rfl
    | true => rw [e] at h4; cases h4
  have h6 := List.any_eq_false.1 h5 k (List.mem_range.2 hk)
  have e : needs.getD k 0 = needs[k] := by rw [List.getD_eq_getElem?_getD, List.getElem?_eq_getElem hk]; rfl
  simp only [e] at h6
  unfold wrongP at h6
  rw [Bool.or_eq_true, decide_eq_true_eq, decide_eq_true_eq] at h6
  omega
set_option maxRecDepth 100000 in
set_option maxHeartbeats 4000000 in
theorem sizeCut_any (A : Option Addr) (cap : Nat) (p : List ByteArray) (hp : SmallP p) (B : Option Addr) (nc : Nat) (needs : List Int) (hnl : needs.length ≤ 1048576) (w : World) (hr0 : Kd.C Kd.string w A p.length p) (hc0 : p.length ≤ cap) (hN : Kd.C (Kd.int .i64) w B needs.length needs) :
    Calls Try.prog 64 #[.slice A p.length cap, .slice B needs.length nc] w fun e w' => e = .returned (.tuple #[.int .i64 (sizeCutP p needs).1, .bool (sizeCutP p needs).2]) ∧ Below w.heap.size w w' := by
  have hb0 : Below w.heap.size w ((w.alloc (.cells #[.slice B needs.length nc] 37)).alloc (.cells #[.slice B needs.length nc] 37)) := ((Below.refl _ w).alloc (Nat.le_refl _) _).alloc (by simp) _
  have hl0 : ((w.alloc (.cells #[.slice B needs.length nc] 37)).alloc (.cells #[.slice B needs.length nc] 37)).cell? ⟨w.heap.size + 1, 0, none⟩ = some (.slice B needs.length nc) := by
    have := heap_alloc_new (w.alloc (.cells #[.slice B needs.length nc] 37)) (.cells #[.slice B needs.length nc] 37)
    rw [show (w.alloc (.cells #[.slice B needs.length nc] 37)).heap.size = w.heap.size + 1 by simp] at this
    rw [Lib.cell_of_heap this]; rfl
  have hn0 : ((w.alloc (.cells #[.slice B needs.length nc] 37)).alloc (.cells #[.slice B needs.length nc] 37)).cell? ⟨w.heap.size, 0, none⟩ = some (.slice B needs.length nc) := by
    rw [World.cell?_of_block (Below.heap_alloc _ _ _ (by simp)), Lib.cell_of_heap (heap_alloc_new w _)]; rfl
  have HND := needing_any A cap p hp (w.heap.size + 1) 1 B nc needs hnl _ (Kd.C_below hr0 hb0) hc0 (by simp) hl0 (Kd.C_below hN hb0)
  have HNA : Aside0 (NeedsAt ((w.alloc (.cells #[.slice B needs.length nc] 37)).alloc (.cells #[.slice B needs.length nc] 37)) w.heap.size needs) := ⟨⟨by simp; omega, B, nc, hn0, Kd.C_below hN hb0⟩⟩
  have HB0 := Aside0.mk hb0
  clear hr0 hN hn0 hl0 hb0
  go_enter Try.func64, Try.ntmps64
  go_wp2_with fail
  refine HND.mono ?_
  rintro e w1 ⟨hb1, ⟨hg, fb, rfl, hfl⟩ | ⟨hg, rfl⟩⟩
  · obtain ⟨hpl, hlen, hn9⟩ := needsG_parts hg
    have HB1 := Aside0.mk (HB0.out.trans (hb1.mono HB0.out.size))
    have HN1 := Aside0.mk (HNA.out.below hb1)
    have F := Aside0.mk (planFlat hpl)
    have hh := (planFlat hpl).high
    have hw := (planFlat hpl).wide
    have hval : sizeCutP p needs = ((sizeO p needs).getD 0, (sizeO p needs).isSome) := by unfold sizeCutP; rw [if_pos hg]
    have HV := Aside0.mk hval
    have HWH := Aside0.mk (whole_any fb p.length (wdP p) (clP p) (boxesP p) w1 hfl (by omega) (by omega))
    have HFO := Aside0.mk (fun W (hW : Below w1.heap.size w1 W) => foldedI_any fb p.length (wdP p) (clP p) (boxesP p) hh.2 hw.2 F.out.boxIn F.out.few w.heap.size needs (by omega) hn9 13 (by omega) 0 0 p.length (wdP p) (by omega) (by omega) (by omega) W (hfl.below hW) (HN1.out.below hW))
    clear hb1 hpl hfl hval hg hlen hn9
    go_wp2_with fail
    refine HWH.out.mono ?_
    rintro e w2 ⟨rfl, hb2⟩
    have HB2 := Aside0.mk hb2
    clear hb2
    go_wp2_with fail
    refine (HFO.out _ HB2.out).mono ?_
    rintro e w3 ⟨rfl, hb3⟩
    have HB3 := Aside0.mk hb3
    clear hb3
    unfold sizeV
    go_wp2_with fail
    go_ret2
    exact ⟨by rw [HV.out]; rfl, HB1.out.trans ((HB2.out.trans (HB3.out.mono HB2.out.size)).mono HB1.out.size)⟩
  · have HB1 := Aside0.mk (HB0.out.trans (hb1.mono HB0.out.size))
    have hval : sizeCutP p needs = (0, false) := by unfold sizeCutP; rw [hg]; rfl
    have HV := Aside0.mk hval
    clear hb1 hg hval
    go_wp2_with fail
    go_ret2
    exact ⟨by rw [HV.out]; rfl, HB1.out⟩
end Go.Proofs.Ytdhnjecbdclmaaa
end
section
namespace Go.Proofs.Ytdhnjecbdclmaaa
open Go.RowKit Go.Shelf Go.Proofs.YtdhnjecbdclmaaaW.PrintWords Go.Proofs.YtdhnjecbdclmaaaW.PrintMore
set_option linter.unusedVariables false
set_option linter.unusedSimpArgs false
end Go.Proofs.Ytdhnjecbdclmaaa
end
section
namespace Go.Proofs.Ytdhnjecbdclmaaa
open Go.RowKit Go.Shelf Go.Proofs.YtdhnjecbdclmaaaW.PrintWords Go.Proofs.YtdhnjecbdclmaaaW.PrintMore
set_option linter.unusedVariables false
end Go.Proofs.Ytdhnjecbdclmaaa
end
section
namespace Go.Proofs.Ytdhnjecbdclmaaa
open Go.RowKit Go.Shelf Go.Proofs.YtdhnjecbdclmaaaW.PrintWords Go.Proofs.YtdhnjecbdclmaaaW.PrintMore
set_option linter.unusedVariables false
set_option linter.unusedSimpArgs false
end Go.Proofs.Ytdhnjecbdclmaaa
end
section
namespace Go.Proofs.Ytdhnjecbdclmaaa
open Go.RowKit Go.Shelf Go.Proofs.YtdhnjecbdclmaaaW.PrintWords Go.Proofs.YtdhnjecbdclmaaaW.PrintMore L2
set_option linter.unusedVariables false
set_option linter.unusedSimpArgs false
theorem TG.grid {p : List ByteArray} {h w : Nat} {G : Nat → Nat → Int} (t : TG p h w G) : TextGrid p w (fun n => G (n / w) (n % w)) := by
  have hl := t.len
  have hh := t.high
  have hw := t.wide
  have hrd : ∀ i (hi : i < p.length), rdOf ByteArray.empty p (i : Int) = p[i] := fun i hi => by
    unfold rdOf
    rw [Int.toNat_natCast, List.getD_eq_getElem?_getD, List.getElem?_eq_getElem hi]
    rfl
  refine ⟨by omega, by omega, fun i hi => ?_, fun i c hi hc => ?_, fun n hn => ?_⟩
  · have := t.size i (by omega)
    rwa [hrd i hi] at this
  · have := t.cell i c (by omega) hc
    rw [hrd i hi] at this
    rw [this, (div_row hc).1, (div_row hc).2]
  · refine t.let_ _ _ ?_ (Nat.mod_lt _ (by omega))
    rw [← hl]
    exact Nat.div_lt_of_lt_mul (by rw [Nat.mul_comm]; exact hn)
theorem plan_rooms {p : List ByteArray} (h : planG p = true) : ∃ k, L2.spec_l1Rooms.f k p = some ((boxesP p).length : Int) := by
  have F := planFacts h
  obtain ⟨hT, h1, h3⟩ := textGrid_of F.let_ F.shape
  have hN := named_of F.let_ F.shape F.named
  obtain ⟨k, hk⟩ := rooms_f hT
  change Named (wdP p) (fP p) (p.length * wdP p) at hN
  change L2.spec_l1Rooms.f k p = some (rmx (fP p) (p.length * wdP p)) at hk
  rw [rmx_named hN _ (Nat.le_refl _), scan_len, ← boxesP_scan] at hk
  exact ⟨k, hk⟩
end Go.Proofs.Ytdhnjecbdclmaaa
end
section
namespace Go.Proofs.Ytdhnjecbdclmaaa
open Go.RowKit Go.Shelf Go.Proofs.YtdhnjecbdclmaaaW.PrintWords Go.Proofs.YtdhnjecbdclmaaaW.PrintMore
set_option linter.unusedVariables false
theorem plan_roomsE {p : List ByteArray} (h : planG p = true) : Ev (fun n => L2.spec_l1Rooms.f n p) ((boxesP p).length : Int) := by
  obtain ⟨k, hk⟩ := plan_rooms h
  refine ⟨k, fun n hn => ?_⟩
  have hO := up (g := fun k' => L2.spec_l1Rooms.f k' p) (fun k' => L2.spec_l1Rooms.mono p k') hk (n - k)
  rwa [show k + (n - k) = n by omega] at hO
end Go.Proofs.Ytdhnjecbdclmaaa
end
section
namespace Go.Proofs.Ytdhnjecbdclmaaa
open Go.RowKit Go.Shelf Go.Proofs.YtdhnjecbdclmaaaW.PrintWords Go.Proofs.YtdhnjecbdclmaaaW.PrintMore
set_option linter.unusedVariables false
set_option linter.unusedSimpArgs false
theorem size_text (cl : Nat → Nat → Int) (boxes : List Box) (need : Int → Int) : ∀ (n : Nat) (R : Rc), (sizeL cl boxes need n R).isSome = (textL cl boxes n R).isSome := by
  intro n
  induction n with
  | zero => intro R; rfl
  | succ n ih =>
    rintro ⟨r, c, ph, pw⟩
    by_cases h1 : (listL boxes (natB r c ph pw) boxes.length).length = 1
    · rw [sizeL_one h1, textL_one h1]; rfl
    · cases hx : (cutsL cl r c ph pw).head? with
      | none => rw [sizeL_none h1 hx, textL_none h1 hx]; rfl
      | some x =>
        rw [sizeL_some h1 hx, textL_some h1 hx]
        have e1 := ih (oneR r c ph pw x)
        have e2 := ih (twoR r c ph pw x)
        cases a1 : sizeL cl boxes need n (oneR r c ph pw x) <;> cases a2 : textL cl boxes n (oneR r c ph pw x) <;> cases b1 : sizeL cl boxes need n (twoR r c ph pw x) <;> cases b2 : textL cl boxes n (twoR r c ph pw x) <;> simp_all
theorem mx_max (a b : Int) : mx a b = max a b := by
  unfold mx
  split <;> omega
theorem wrap_small (a : Int) (h : 0 ≤ a ∧ a ≤ 1000000) : wrap64 a = a := by unfold wrap64; omega
theorem wrap_letter (q : Nat) (hq : q ≤ 9) : wrap64 (wrap64 (97 + (q : Int)) - 97) = (q : Int) := by
  rw [wrap_small (97 + (q : Int)) (by omega), show 97 + (q : Int) - 97 = (q : Int) by omega, wrap_small _ (by omega)]
set_option maxHeartbeats 2000000 in
theorem specSize {cl : Nat → Nat → Int} {boxes : List Box} {h wd : Nat} (f : Flat cl boxes h wd) (needs : List Int) (hnl : boxes.length ≤ needs.length) (hn9 : ∀ x ∈ needs, (0 : Int) ≤ x ∧ x ≤ 9) : ∀ (n : Nat), n ≤ 13 → ∀ (r c ph pw : Nat) (p : List ByteArray), ph + pw < n → Whole cl h wd r c ph pw → TG p ph pw (gridOf cl r c) →
    ∀ v, sizeL cl boxes (needOf needs) n (r, c, ph, pw) = some v → Ev (fun k => L9.spec_l7Cut.f k p needs) v := by
  intro n
  induction n with
  | zero => intro _ r c ph pw p h0; omega
  | succ n ih =>
    intro hn r c ph pw p hlt hw t v hv
    have hs := hw.some
    have hl := t.len
    have hs0 := t.size 0 (by omega)
    rw [show ((0 : Nat) : Int) = 0 from rfl] at hs0
    have hone := one_f t
    rw [grid_one f hw] at hone
    have hone2 := tot_ev hone
    by_cases h1 : (listL boxes (natB r c ph pw) boxes.length).length = 1
    · rw [sizeL_one h1, list_head f hw h1] at hv
      obtain rfl := Option.some.inj hv
      rw [decide_eq_true h1] at hone2
      obtain ⟨q, hq, hcq⟩ := f.num r c (by have := hw.row; omega) (by have := hw.col; omega)
      have hfew := f.few
      have hc0 := t.cell 0 0 (by omega) (by omega)
      rw [show ((0 : Nat) : Int) = 0 from rfl] at hc0
      unfold gridOf at hc0
      rw [Nat.add_zero, Nat.add_zero, hcq] at hc0
      have hw0 := wrap_letter q (Nat.le_of_lt (Nat.lt_of_lt_of_le hq (Nat.le_trans hfew (by decide))))
      have q0 : (0 : Int) ≤ (q : Int) := Int.natCast_nonneg q
      have q1 : (q : Int) < (needs.length : Int) := Int.ofNat_lt.2 (Nat.lt_of_lt_of_le hq hnl)
      have l0 : (0 : Int) < (p.length : Int) := by omega
      have l1 : (0 : Int) < ((rdOf ByteArray.empty p 0).size : Int) := by rw [hs0]; omega
      refine Ev.now fun k => ?_
      conv => lhs; unfold L9.spec_l7Cut.f
      rw [show spec_l3One.f p = some true from hone2, Option.bind_some, if_pos rfl, if_pos l0, if_pos l1, hc0, hw0, if_pos q0, if_pos q1]
      rw [hcq]; rfl
    · rw [decide_eq_false h1] at hone2
      have hcut := cut_f t
      have hcg := cuts_grid cl r c ph pw
      cases hx : (cutsG (gridOf cl r c) ph pw).head? with
      | none =>
        have hx2 : (cutsL cl r c ph pw).head? = none := by rw [hcg, List.head?_map, hx]; rfl
        rw [sizeL_none h1 hx2] at hv
        cases hv
      | some x =>
        have hx2 : (cutsL cl r c ph pw).head? = some (moveX r c x) := by rw [hcg, List.head?_map, hx]; rfl
        rw [hx] at hcut
        have hxm := head_in hx2
        have hxg : x ∈ cutsG (gridOf cl r c) ph pw := List.mem_of_mem_head? (by rw [hx]; rfl)
        have hin := cutsG_in hxg
        obtain ⟨w1, w2⟩ := whole_parts f hw hxm
        obtain ⟨t1, t2⟩ := parts_grid t hxg
        have i1 := one_in hxm
        have i2 := two_in hxm
        rw [sizeL_some h1 hx2] at hv
        obtain ⟨o1, ho1⟩ : ∃ o, sizeL cl boxes (needOf needs) n (oneR r c ph pw (moveX r c x)) = o := ⟨_, rfl⟩
        obtain ⟨o2, ho2⟩ : ∃ o, sizeL cl boxes (needOf needs) n (twoR r c ph pw (moveX r c x)) = o := ⟨_, rfl⟩
        rw [ho1, ho2] at hv
        cases o1 with
        | none => cases hv
        | some a =>
          cases o2 with
          | none => cases hv
          | some b =>
            obtain rfl := Option.some.inj hv
            have e1 := ih (by omega) _ _ _ _ _ (by have := i1.less; omega) w1 t1 a ho1
            have e2 := ih (by omega) _ _ _ _ _ (by have := i2.less; omega) w2 t2 b ho2
            obtain ⟨a0, a1⟩ := sizeL_bound cl boxes needs hn9 n _ a ho1
            obtain ⟨b0, b1⟩ := sizeL_bound cl boxes needs hn9 n _ b ho2
            have hpow : 2 ^ n ≤ 2 ^ 13 := Nat.pow_le_pow_right (by omega) (by omega)
            have hkind : firstG (some x) = (kindI x.1, (x.2 : Int)) := rfl
            rw [hkind] at hcut
            have hcut2 := tot_ev hcut
            have hp := tot_ev (parts_f t x (by cases hb : x.1 <;> rw [hb] at hin <;> simp at hin ⊢ <;> omega))
            have hU : ∀ k, L9.spec_l7Cut.f (k + 1) p needs = if kindI x.1 = 0 then ((L9.spec_l7Cut.f k (partsT p ph x).1 needs).bind fun t117 => ((L9.spec_l7Cut.f k (partsT p ph x).2 needs).bind fun t118 => (some (wrap64 (t117 + t118))))) else ((L9.spec_l7Cut.f k (partsT p ph x).1 needs).bind fun t119 => ((L9.spec_l7Cut.f k (partsT p ph x).2 needs).bind fun t120 => (some (mx t119 t120)))) := fun k => by
              conv => lhs; unfold L9.spec_l7Cut.f
              rw [show spec_l3One.f p = some false from hone2, Option.bind_some, if_neg (by simp), show spec_l3Cut.f p = some (kindI x.1, (x.2 : Int)) from hcut2, Option.bind_some]
              rw [show spec_l3Parts.f p (kindI x.1) (x.2 : Int) = some (partsT p ph x) from hp, Option.bind_some]
            have hmv : (moveX r c x).1 = x.1 := rfl
            rw [hmv]
            cases hb : x.1 with
            | true =>
              rw [hb] at hU
              have hE : Ev (fun k => (L9.spec_l7Cut.f k (partsT p ph x).1 needs).bind fun t119 => ((L9.spec_l7Cut.f k (partsT p ph x).2 needs).bind fun t120 => (some (mx t119 t120)))) (joinI true a b) := by
                refine Ev.bind e1 ?_
                refine Ev.bind e2 ?_
                rw [mx_max]
                exact Ev.const _
              exact hE.step fun k => by rw [hU k]; rfl
            | false =>
              rw [hb] at hU
              have hE : Ev (fun k => (L9.spec_l7Cut.f k (partsT p ph x).1 needs).bind fun t119 => ((L9.spec_l7Cut.f k (partsT p ph x).2 needs).bind fun t120 => (some (wrap64 (t119 + t120))))) (joinI false a b) := by
                refine Ev.bind e1 ?_
                refine Ev.bind e2 ?_
                have hw2 : wrap64 (a + b) = a + b := wrap_small _ (by omega)
                rw [hw2]
                exact Ev.const _
              exact hE.step fun k => by rw [hU k]; rfl
end Go.Proofs.Ytdhnjecbdclmaaa
end
section
namespace Go.Proofs.Ytdhnjecbdclmaaa
open Go.RowKit Go.Shelf Go.Proofs.YtdhnjecbdclmaaaW.PrintWords Go.Proofs.YtdhnjecbdclmaaaW.PrintMore
set_option linter.unusedVariables false
set_option linter.unusedSimpArgs false
theorem in_9 (x : Int) : L9.spec_l6In.f x 1 9 = some (!wrongP x) := by
  unfold L9.spec_l6In.f wrongP
  by_cases h1 : x ≥ 1
  · rw [if_pos h1, decide_eq_false (show ¬ x < 1 by omega), Bool.false_or]
    by_cases h2 : x ≤ 9
    · rw [decide_eq_true h2, decide_eq_false (show ¬ 9 < x by omega)]; rfl
    · rw [decide_eq_false h2, decide_eq_true (show 9 < x by omega)]; rfl
  · rw [if_neg h1, decide_eq_true (show x < 1 by omega), Bool.true_or]; rfl
theorem wrap_next (i : Nat) (hi : i ≤ 2000000) : wrap64 ((i : Int) + 1) = ((i + 1 : Nat) : Int) := by
  rw [wrap64]; omega
theorem needs_l0 (needs : List Int) (hn : needs.length ≤ 1048576) : ∀ d i, i + d = needs.length → Ev (fun k => L9.spec_l7Needs.l0 k needs (i : Int)) (!((List.range' i d).any fun k => wrongP (needs.getD k 0))) := by
  intro d
  induction d with
  | zero =>
    intro i hi
    refine Ev.now fun k => ?_
    unfold L9.spec_l7Needs.l0
    rw [if_neg (by omega)]; rfl
  | succ d ih =>
    intro i hi
    have hE := ih (i + 1) (by omega)
    have e0 : rd needs (i : Int) = needs.getD i 0 := by unfold rd; rw [Int.toNat_natCast]
    have c0 : (i : Int) < (needs.length : Int) := by omega
    have c1 : (0 : Int) ≤ (i : Int) := by omega
    rw [List.range'_succ, List.any_cons]
    have hU : ∀ k, L9.spec_l7Needs.l0 (k + 1) needs (i : Int) = if (!wrongP (needs.getD i 0)) = true then L9.spec_l7Needs.l0 k needs ((i + 1 : Nat) : Int) else some false := fun k => by
      conv => lhs; unfold L9.spec_l7Needs.l0
      rw [if_pos c0, if_pos c1, e0, in_9, Option.bind_some, wrap_next i (by omega)]
    cases hw : wrongP (needs.getD i 0) with
    | true =>
      rw [hw] at hU
      exact Ev.now fun k => by rw [hU k]; rfl
    | false =>
      rw [hw] at hU
      rw [Bool.false_or]
      exact hE.step fun k => by rw [hU k]; rfl
theorem j0_true (k : Nat) (needs : List Int) : L9.spec_l7Needs.j0 (k + 1) needs true = some false := by
  unfold L9.spec_l7Needs.j0; rfl
theorem j0_false (k : Nat) (needs : List Int) : L9.spec_l7Needs.j0 (k + 1) needs false = L9.spec_l7Needs.l0 k needs 0 := by
  conv => lhs; unfold L9.spec_l7Needs.j0
  rfl
theorem needs_ev (p : List ByteArray) (hp : SmallP p) (needs : List Int) (hn : needs.length ≤ 1048576) : Ev (fun k => L9.spec_l7Needs.f k p needs) (needsG p needs) := by
  have h5 : L9.spec_l5Plain.f p = some (plainP p) := by
    unfold L9.spec_l5Plain.f spec_WallPlain.f
    rw [if_pos hp]; rfl
  unfold needsG
  cases hpl : plainP p with
  | false =>
    rw [hpl] at h5
    refine Ev.now fun k => ?_
    unfold L9.spec_l7Needs.f
    rw [h5, Option.bind_some, if_neg (by simp), j0_true]; rfl
  | true =>
    have hpg : planG p = true := by unfold plainP at hpl; exact (Bool.and_eq_true_iff.1 hpl).1
    rw [hpl] at h5
    have hr : spec_l1Rooms.f p = some ((boxesP p).length : Int) := tot_ev (plan_roomsE hpg)
    have hU : ∀ k, L9.spec_l7Needs.f k p needs = L9.spec_l7Needs.j0 k needs ((needs.length : Int) != ((boxesP p).length : Int)) := fun k => by
      unfold L9.spec_l7Needs.f
      rw [h5, Option.bind_some, if_pos rfl, hr, Option.bind_some]
    rw [Bool.true_and]
    by_cases hl : needs.length = (boxesP p).length
    · have e : ((needs.length : Int) != ((boxesP p).length : Int)) = false := by rw [hl]; simp
      rw [e] at hU
      rw [decide_eq_true hl, Bool.true_and]
      have hE := needs_l0 needs hn needs.length 0 (by omega)
      rw [← List.range_eq_range'] at hE
      refine hE.step fun k => ?_
      rw [hU (k + 1), j0_false]; rfl
    · have e : ((needs.length : Int) != ((boxesP p).length : Int)) = true := by rw [bne_iff_ne]; omega
      rw [e] at hU
      rw [decide_eq_false hl, Bool.false_and]
      refine Ev.now fun k => ?_
      rw [hU (k + 1), j0_true]
theorem size_ev (p : List ByteArray) (hp : SmallP p) (needs : List Int) (hn : needs.length ≤ 1048576) : Ev (fun k => L9.spec_SizeCut.f k p needs) (sizeCutP p needs) := by
  have hN := needs_ev p hp needs hn
  have hC : spec_CutIs.f p = some (cutTextP p).2 := by unfold spec_CutIs.f; rw [if_pos hp]; rfl
  unfold sizeCutP
  refine Ev.bind (F := fun k (t121 : Bool) => if t121 = true then ((spec_CutIs.f p).bind fun t122 => (if t122 = true then ((L9.spec_l7Cut.f k p needs).bind fun t123 => (some (t123, true))) else (some (0, false)))) else (some (0, false))) hN ?_
  cases hg : needsG p needs with
  | false => exact Ev.const _
  | true =>
    obtain ⟨hpl, hlen, hn9⟩ := needsG_parts hg
    have f := planFlat hpl
    have e : (cutTextP p).2 = (sizeO p needs).isSome := by
      unfold cutTextP
      rw [if_pos hpl]
      exact (size_text (clP p) (boxesP p) (needOf needs) 13 (0, 0, p.length, wdP p)).symm
    rw [hC, e]
    show Ev (fun k => if (sizeO p needs).isSome = true then ((L9.spec_l7Cut.f k p needs).bind fun t123 => (some (t123, true))) else (some (0, false))) ((sizeO p needs).getD 0, (sizeO p needs).isSome)
    cases hs : sizeO p needs with
    | none => exact Ev.const _
    | some v =>
      have hE := specSize f needs (by omega) hn9 13 (by omega) 0 0 p.length (wdP p) p (by have := f.high; have := f.wide; omega) f.whole (planTG hpl) v hs
      exact Ev.bind (F := fun k (t123 : Int) => some (t123, true)) hE (Ev.const _)
def impl_SizeCut.f (l0 : List ByteArray) (l1 : List Int) : Option (Int × Bool) := if SmallP l0 ∧ l1.length ≤ 1048576 then some (sizeCutP l0 l1) else none
theorem impl_SizeCut.calls (A0 : Option Addr) (c0 : Nat) (l0 : List ByteArray) (A1 : Option Addr) (c1 : Nat) (l1 : List Int) (r1 : Int) (r2 : Bool) (w : World) (hr0 : Kd.C Kd.string w A0 l0.length l0) (hc0 : l0.length ≤ c0) (hr1 : Kd.C (Kd.int .i64) w A1 l1.length l1) (hc1 : l1.length ≤ c1) (h : impl_SizeCut.f l0 l1 = some (r1, r2)) :
    Calls Try.prog 64 #[.slice A0 l0.length c0, .slice A1 l1.length c1] w fun e w' => e = .returned (.tuple #[.int .i64 r1, .bool r2]) ∧ Below w.heap.size w w' := by
  unfold impl_SizeCut.f at h
  split at h
  · rename_i hb
    injection h with h
    have := sizeCut_any A0 c0 l0 hb.1 A1 c1 l1 hb.2 w hr0 hc0 hr1
    rw [h] at this
    exact this
  · cases h
def spec_SizeCut.f (l0 : List ByteArray) (l1 : List Int) : Option (Int × Bool) := if SmallP l0 ∧ l1.length ≤ 1048576 then some (sizeCutP l0 l1) else none
theorem spec_SizeCut.calls (A0 : Option Addr) (c0 : Nat) (l0 : List ByteArray) (A1 : Option Addr) (c1 : Nat) (l1 : List Int) (r1 : Int) (r2 : Bool) (w : World) (hr0 : Kd.C Kd.string w A0 l0.length l0) (hc0 : l0.length ≤ c0) (hr1 : Kd.C (Kd.int .i64) w A1 l1.length l1) (hc1 : l1.length ≤ c1) (h : spec_SizeCut.f l0 l1 = some (r1, r2)) :
    Calls Try.prog 62 #[.slice A0 l0.length c0, .slice A1 l1.length c1] w fun e w' => e = .returned (.tuple #[.int .i64 r1, .bool r2]) ∧ Below w.heap.size w w' := by
  unfold spec_SizeCut.f at h
  split at h
  · rename_i hb
    injection h with h
    obtain ⟨k, hk⟩ := (size_ev l0 hb.1 l1 hb.2).ex
    exact L9.spec_SizeCut.calls k A0 c0 l0 A1 c1 l1 r1 r2 w hr0 hc0 hr1 hc1 (by rw [hk, h])
  · cases h
end Go.Proofs.Ytdhnjecbdclmaaa
end
