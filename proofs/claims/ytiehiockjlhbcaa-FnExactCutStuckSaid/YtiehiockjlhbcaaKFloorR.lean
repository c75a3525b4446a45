/- A floor that is read: its cells and rooms; the program's sides and differ. -/
import Derived.Test.YtiehiockjlhbcaaKFloorOf
namespace Go.Proofs.Ytiehiockjlhbcaa
open Go.RowKit Go.Shelf Go.Proofs.YtiehiockjlhbcaaW.PrintWords Go.Proofs.YtiehiockjlhbcaaW.PrintMore
set_option linter.unusedVariables false

/-- A floor in memory, as it is read: h rows of wd numbers cl, and rooms. -/
def FloorR (w : World) (fb h wd : Nat) (cl : Nat → Nat → Int) (boxes : List Box) : Prop := ∃ (g : Nat) (rb : Nat → Nat) (RA : Option Addr) (rc : Nat), fb < w.heap.size ∧ g < w.heap.size ∧
  w.cell? ⟨fb, 0, none⟩ = some (.slice (some ⟨g, 0, none⟩) h h) ∧ w.cell? ⟨fb, 1, none⟩ = some (.slice RA boxes.length rc) ∧
  (∀ r, r < h → rb r < w.heap.size ∧ w.cell? ⟨g, r, none⟩ = some (.slice (some ⟨rb r, 0, none⟩) wd wd) ∧ ∀ c, c < wd → w.cell? ⟨rb r, c, none⟩ = some (.int .i64 (cl r c))) ∧
  (boxes ≠ [] → ∃ rg, RA = some ⟨rg, 0, none⟩ ∧ rg < w.heap.size ∧ ∀ k (hk : k < boxes.length), w.cell? ⟨rg, k * 4, none⟩ = some (.int .i64 boxes[k].1) ∧ w.cell? ⟨rg, k * 4 + 1, none⟩ = some (.int .i64 boxes[k].2.1) ∧ w.cell? ⟨rg, k * 4 + 2, none⟩ = some (.int .i64 boxes[k].2.2.1) ∧ w.cell? ⟨rg, k * 4 + 3, none⟩ = some (.int .i64 boxes[k].2.2.2))
theorem FloorR.below {w w' : World} {fb h wd : Nat} {cl : Nat → Nat → Int} {boxes : List Box} (hf : FloorR w fb h wd cl boxes) (hb : Below w.heap.size w w') : FloorR w' fb h wd cl boxes := by
  obtain ⟨g, rb, RA, rc, h1, h2, h3, h4, h5, h6⟩ := hf
  have hs := hb.size
  refine ⟨g, rb, RA, rc, by omega, by omega, by rw [hb.cell h1]; exact h3, by rw [hb.cell h1]; exact h4, fun r hr => ?_, fun hne => ?_⟩
  · obtain ⟨a, b, c⟩ := h5 r hr
    exact ⟨by omega, by rw [hb.cell h2]; exact b, fun k hk => by rw [hb.cell a]; exact c k hk⟩
  · obtain ⟨rg, a, b, c⟩ := h6 hne
    refine ⟨rg, a, by omega, fun k hk => ?_⟩
    obtain ⟨c1, c2, c3, c4⟩ := c k hk
    exact ⟨by rw [hb.cell b]; exact c1, by rw [hb.cell b]; exact c2, by rw [hb.cell b]; exact c3, by rw [hb.cell b]; exact c4⟩
/-- The two rooms at a line. -/
def sidesL (cl : Nat → Nat → Int) (level : Bool) (line at_ : Nat) : Int × Int := if level then (cl (line - 1) at_, cl line at_) else (cl at_ (line - 1), cl at_ line)

set_option maxRecDepth 100000 in
set_option maxHeartbeats 8000000 in
theorem sides_any (fb h wd : Nat) (cl : Nat → Nat → Int) (boxes : List Box) (w : World) (hf : FloorR w fb h wd cl boxes) (hh : h ≤ 1000) (hwd : wd ≤ 1000) (level : Bool) (line at_ : Nat) (hl : 1 ≤ line) (hin : if level then line < h ∧ at_ < wd else line < wd ∧ at_ < h) :
    Calls Try.prog 151 #[.pointer (some ⟨fb, 0, none⟩), .bool level, .int .i64 line, .int .i64 at_] w fun e w' => e = .returned (.tuple #[.int .i64 (sidesL cl level line at_).1, .int .i64 (sidesL cl level line at_).2]) ∧ Below w.heap.size w w' := by
  obtain ⟨g, rb, RA, rc, h1, h2, h3, h4, h5, h6⟩ := hf
  cases level with
  | true =>
    simp only [if_true] at hin
    obtain ⟨a1, a2, a3⟩ := h5 (line - 1) (by omega)
    obtain ⟨b1, b2, b3⟩ := h5 line hin.1
    have a4 := a3 at_ hin.2
    have b4 := b3 at_ hin.2
    have e1 : ((line : Int) - 1) = ((line - 1 : Nat) : Int) := by omega
    go_enter Try.func151, Try.ntmps151
    go_wp2
    go_quiet (fail)
    go_wp2
    go_ret2
    exact ⟨rfl, by repeat (first | exact Below.refl _ _ | apply pw_below_drewN | apply below_alloc)⟩
  | false =>
    simp only [Bool.false_eq_true, if_false] at hin
    obtain ⟨a1, a2, a3⟩ := h5 at_ hin.2
    have a4 := a3 (line - 1) (by omega)
    have b4 := a3 line hin.1
    have e1 : ((line : Int) - 1) = ((line - 1 : Nat) : Int) := by omega
    go_enter Try.func151, Try.ntmps151
    go_wp2
    go_quiet (fail)
    go_wp2
    go_ret2
    exact ⟨rfl, by repeat (first | exact Below.refl _ _ | apply pw_below_drewN | apply below_alloc)⟩
set_option maxRecDepth 100000 in
set_option maxHeartbeats 8000000 in
theorem differ_any (fb h wd : Nat) (cl : Nat → Nat → Int) (boxes : List Box) (w : World) (hf : FloorR w fb h wd cl boxes) (hh : h ≤ 1000) (hwd : wd ≤ 1000) (level : Bool) (line at_ : Nat) (hl : 1 ≤ line) (hin : if level then line < h ∧ at_ < wd else line < wd ∧ at_ < h) :
    Calls Try.prog 145 #[.pointer (some ⟨fb, 0, none⟩), .bool level, .int .i64 line, .int .i64 at_] w fun e w' => e = .returned (.bool ((sidesL cl level line at_).1 != (sidesL cl level line at_).2)) ∧ Below w.heap.size w w' := by
  go_enter Try.func145, Try.ntmps145
  go_wp2_with (
    go_at_call 151
    refine (sides_any fb h wd cl boxes w hf hh hwd level line at_ hl hin).mono ?_
    rintro _ w1 ⟨rfl, hb⟩)
  go_ret
  exact ⟨rfl, hb⟩
/-- A part of a floor: a floor's pointer and a rectangle. -/
def partV (fb : Nat) (b : Box) : Value := .agg #[.pointer (some ⟨fb, 0, none⟩), .int .i64 b.1, .int .i64 b.2.1, .int .i64 b.2.2.1, .int .i64 b.2.2.2]
def throughL (cl : Nat → Nat → Int) (level : Bool) (line from_ : Nat) : Nat → Bool
  | 0 => true
  | n + 1 => throughL cl level line from_ n && ((sidesL cl level line (from_ + n)).1 != (sidesL cl level line (from_ + n)).2)
theorem throughL_no {cl : Nat → Nat → Int} {level : Bool} {line from_ k : Nat} (h : ((sidesL cl level line (from_ + k)).1 != (sidesL cl level line (from_ + k)).2) = false) : ∀ n, k < n → throughL cl level line from_ n = false := by
  intro n hn
  induction n with
  | zero => omega
  | succ n ih =>
    unfold throughL
    by_cases hk : k = n
    · subst hk; rw [h, Bool.and_false]
    · rw [ih (by omega), Bool.false_and]
/-- A rectangle of natural numbers. -/
def natB (r c h w : Nat) : Box := ((r : Int), (c : Int), (h : Int), (w : Int))
set_option maxRecDepth 100000 in
set_option maxHeartbeats 8000000 in
theorem through_any (fb h wd : Nat) (cl : Nat → Nat → Int) (boxes : List Box) (w : World) (hf : FloorR w fb h wd cl boxes) (hh : h ≤ 1000) (hwd : wd ≤ 1000) (r c ph pw : Nat) (hr : r + ph ≤ h) (hc : c + pw ≤ wd) (level : Bool) (line : Nat) (hl : 1 ≤ line) (hin : if level then line < h else line < wd) :
    Calls Try.prog 129 #[partV fb (natB r c ph pw), .bool level, .int .i64 line] w fun e w' => e = .returned (.bool (throughL cl level line (if level then c else r) (if level then pw else ph))) ∧ Below w.heap.size w w' := by
  unfold partV natB
  dsimp only
  have HF := Aside0.mk hf
  clear hf
  cases level with
  | true =>
    simp only [if_true] at hin ⊢
    go_enter Try.func129, Try.ntmps129
    go_wp2
    go_quiet (fail)
    go_wp2
    go_quiet (fail)
    go_wp2
    go_loopw [9] (fun i wr => ∃ k : Nat, i = .int .i64 ((c + k : Nat) : Int) ∧ k ≤ pw ∧ throughL cl true line c k = true ∧ Aside0 (Below w.heap.size w wr ∧ w.heap.size < wr.heap.size) ∧ wr.cell? ⟨w.heap.size, 0, none⟩ = some (.pointer (some ⟨fb, 0, none⟩))) (fun i _ => c + pw - (intOf i).toNat)
    case atStart =>
      refine ⟨0, rfl, Nat.zero_le _, rfl, ⟨?_, ?_⟩, ?_⟩
      · repeat (first | exact Below.refl _ _ | apply pw_below_drewN | apply below_alloc)
      · show w.heap.size < (w.alloc _).heap.size
        simp
      · show (w.alloc _).cell? _ = _
        rw [Lib.cell_of_heap (heap_alloc_new w _)]
        rfl
    case round =>
      obtain ⟨k, rfl, hk, ht, HB, hp⟩ := hrel
      have HT := Aside0.mk ht
      clear ht
      by_cases hlt : k < pw
      · have hg : ((c + k : Nat) : Int) < (c : Int) + (pw : Int) := by omega
        cases hd : ((sidesL cl true line (c + k)).1 != (sidesL cl true line (c + k)).2) with
        | true =>
          go_wp2_with (
            go_at_call 145
            refine (differ_any fb h wd cl boxes wr (HF.out.below HB.out.1) hh hwd true line (c + k) hl ⟨hin, by omega⟩).mono ?_
            rintro e w2 ⟨rfl, hb2⟩
            rw [hd])
          refine ⟨⟨k + 1, by push_cast; rw [Int.add_assoc], by omega, ?_, ⟨HB.out.1.trans (hb2.mono HB.out.1.size), Nat.lt_of_lt_of_le HB.out.2 hb2.size⟩, (hb2.cell (p := ⟨w.heap.size, 0, none⟩) HB.out.2).trans hp⟩, by simp [intOf]; omega⟩
          unfold throughL
          rw [HT.out, hd]; rfl
        | false =>
          go_wp2_with (
            go_at_call 145
            refine (differ_any fb h wd cl boxes wr (HF.out.below HB.out.1) hh hwd true line (c + k) hl ⟨hin, by omega⟩).mono ?_
            rintro e w2 ⟨rfl, hb2⟩
            rw [hd])
          rw [throughL_no hd _ hlt]
          go_ret
          exact ⟨rfl, HB.out.1.trans (hb2.mono HB.out.1.size)⟩
      · have hg : ¬ ((c + k : Nat) : Int) < (c : Int) + (pw : Int) := by omega
        have hkn : k = pw := by omega
        rw [hkn] at HT
        go_wp2
        rw [HT.out]
        go_ret
        exact ⟨rfl, HB.out.1⟩
  | false =>
    simp only [Bool.false_eq_true, if_false] at hin ⊢
    go_enter Try.func129, Try.ntmps129
    go_wp2
    go_quiet (fail)
    go_wp2
    go_loopw [9] (fun i wr => ∃ k : Nat, i = .int .i64 ((r + k : Nat) : Int) ∧ k ≤ ph ∧ throughL cl false line r k = true ∧ Aside0 (Below w.heap.size w wr ∧ w.heap.size < wr.heap.size) ∧ wr.cell? ⟨w.heap.size, 0, none⟩ = some (.pointer (some ⟨fb, 0, none⟩))) (fun i _ => r + ph - (intOf i).toNat)
    case atStart =>
      refine ⟨0, rfl, Nat.zero_le _, rfl, ⟨?_, ?_⟩, ?_⟩
      · repeat (first | exact Below.refl _ _ | apply pw_below_drewN | apply below_alloc)
      · show w.heap.size < (w.alloc _).heap.size
        simp
      · show (w.alloc _).cell? _ = _
        rw [Lib.cell_of_heap (heap_alloc_new w _)]
        rfl
    case round =>
      obtain ⟨k, rfl, hk, ht, HB, hp⟩ := hrel
      have HT := Aside0.mk ht
      clear ht
      by_cases hlt : k < ph
      · have hg : ((r + k : Nat) : Int) < (r : Int) + (ph : Int) := by omega
        cases hd : ((sidesL cl false line (r + k)).1 != (sidesL cl false line (r + k)).2) with
        | true =>
          go_wp2_with (
            go_at_call 145
            refine (differ_any fb h wd cl boxes wr (HF.out.below HB.out.1) hh hwd false line (r + k) hl ⟨hin, by omega⟩).mono ?_
            rintro e w2 ⟨rfl, hb2⟩
            rw [hd])
          refine ⟨⟨k + 1, by push_cast; rw [Int.add_assoc], by omega, ?_, ⟨HB.out.1.trans (hb2.mono HB.out.1.size), Nat.lt_of_lt_of_le HB.out.2 hb2.size⟩, (hb2.cell (p := ⟨w.heap.size, 0, none⟩) HB.out.2).trans hp⟩, by simp [intOf]; omega⟩
          unfold throughL
          rw [HT.out, hd]; rfl
        | false =>
          go_wp2_with (
            go_at_call 145
            refine (differ_any fb h wd cl boxes wr (HF.out.below HB.out.1) hh hwd false line (r + k) hl ⟨hin, by omega⟩).mono ?_
            rintro e w2 ⟨rfl, hb2⟩
            rw [hd])
          rw [throughL_no hd _ hlt]
          go_ret
          exact ⟨rfl, HB.out.1.trans (hb2.mono HB.out.1.size)⟩
      · have hg : ¬ ((r + k : Nat) : Int) < (r : Int) + (ph : Int) := by omega
        have hkn : k = ph := by omega
        rw [hkn] at HT
        go_wp2
        rw [HT.out]
        go_ret
        exact ⟨rfl, HB.out.1⟩
end Go.Proofs.Ytiehiockjlhbcaa
