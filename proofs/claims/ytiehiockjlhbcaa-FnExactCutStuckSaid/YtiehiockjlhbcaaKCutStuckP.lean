/- What the reference's CutStuck counts: plain. -/
import Derived.Test.YtiehiockjlhbcaaKSpecStuck
namespace Go.Proofs.Ytiehiockjlhbcaa
open Go.RowKit Go.Shelf Go.Proofs.YtiehiockjlhbcaaW.PrintWords Go.Proofs.YtiehiockjlhbcaaW.PrintMore L2
set_option linter.unusedVariables false
set_option linter.unusedSimpArgs false

theorem TG.grid {p : List ByteArray} {h w : Nat} {G : Nat → Nat → Int} (t : TG p h w G) : TextGrid p w (fun n => G (n / w) (n % w)) := by
  have hl := t.len
  have hh := t.high
  have hw := t.wide
  have hrd : ∀ i (hi : i < p.length), rdOf ByteArray.empty p (i : Int) = p[i] := fun i hi => by
    unfold rdOf
    rw [Int.toNat_natCast, List.getD_eq_getElem?_getD, List.getElem?_eq_getElem hi]
    rfl
  refine ⟨by omega, by omega, fun i hi => ?_, fun i c hi hc => ?_, fun n hn => ?_⟩
  · have := t.size i (by omega)
    rwa [hrd i hi] at this
  · have := t.cell i c (by omega) hc
    rw [hrd i hi] at this
    rw [this, (div_row hc).1, (div_row hc).2]
  · refine t.let_ _ _ ?_ (Nat.mod_lt _ (by omega))
    rw [← hl]
    exact Nat.div_lt_of_lt_mul (by rw [Nat.mul_comm]; exact hn)
theorem cnt_pos (f : Nat → Int) (x : Int) : ∀ n, 0 < cntX f x n ↔ ∃ m, m < n ∧ f m = x := by
  intro n
  induction n with
  | zero => simp [cntX, sumTo]
  | succ n ih =>
    have e : cntX f x (n + 1) = cntX f x n + (if f n = x then 1 else 0) := rfl
    rw [e]
    constructor
    · intro h
      by_cases hx : f n = x
      · exact ⟨n, by omega, hx⟩
      · rw [if_neg hx] at h
        obtain ⟨m, h1, h2⟩ := ih.1 (by omega)
        exact ⟨m, by omega, h2⟩
    · rintro ⟨m, h1, h2⟩
      by_cases hm : m = n
      · subst hm; rw [if_pos h2]; omega
      · have := ih.2 ⟨m, by omega, h2⟩
        omega
/-- Cells of a room in a part: as the boxes say. -/
theorem cells_part {cl : Nat → Nat → Int} {boxes : List Box} {h wd : Nat} (f : Flat cl boxes h wd) {R : Rc} (hw : Whole cl h wd R.1 R.2.1 R.2.2.1 R.2.2.2) {q : List ByteArray} (t : TG q R.2.2.1 R.2.2.2 (gridOf cl R.1 R.2.1)) (k : Nat) (hk : k < boxes.length) :
    ∃ (m j : Nat), spec_l1Cells.f j q (k : Int) = some (m : Int) ∧ m ≤ 36 ∧ (0 < m ↔ bothB (boxR R) boxes[k] = boxR R) := by
  have hfew := f.few
  obtain ⟨j, hj⟩ := cells_f t.grid (k : Int) (by omega)
  refine ⟨_, j, hj, ?_, ?_⟩
  · have hle : ∀ (f : Nat → Int) x n, cntX f x n ≤ n := fun f x n => by
      induction n with
      | zero => exact Nat.le_refl _
      | succ n ih =>
        have e : cntX f x (n + 1) = cntX f x n + (if f n = x then 1 else 0) := rfl
        rw [e]; split <;> omega
    have h1 := hle (fun n => gridOf cl R.1 R.2.1 (n / R.2.2.2) (n % R.2.2.2)) (97 + (k : Int)) (q.length * R.2.2.2)
    have h2 : q.length * R.2.2.2 ≤ 6 * 6 := Nat.mul_le_mul (by rw [t.len]; exact t.high.2) t.wide.2
    omega
  · rw [cnt_pos]
    unfold boxR
    rw [room_within f hw k hk, t.len]
    have hh := t.high
    have hww := t.wide
    constructor
    · rintro ⟨m, h1, h2⟩
      have hm1 : m / R.2.2.2 < R.2.2.1 := Nat.div_lt_of_lt_mul (by rw [Nat.mul_comm]; exact h1)
      have hm2 : m % R.2.2.2 < R.2.2.2 := Nat.mod_lt _ (by omega)
      unfold gridOf at h2
      exact ⟨R.1 + m / R.2.2.2, R.2.1 + m % R.2.2.2, ⟨⟨Nat.le_add_right _ _, by omega⟩, Nat.le_add_right _ _, by omega⟩, by omega⟩
    · rintro ⟨i, j, ⟨⟨c1, c2⟩, c3, c4⟩, hc⟩
      have hj : j - R.2.1 < R.2.2.2 := by omega
      refine ⟨(i - R.1) * R.2.2.2 + (j - R.2.1), ?_, ?_⟩
      · have : (i - R.1 + 1) * R.2.2.2 ≤ R.2.2.1 * R.2.2.2 := Nat.mul_le_mul_right _ (by omega)
        rw [Nat.succ_mul] at this; omega
      · show gridOf cl R.1 R.2.1 (((i - R.1) * R.2.2.2 + (j - R.2.1)) / R.2.2.2) (((i - R.1) * R.2.2.2 + (j - R.2.1)) % R.2.2.2) = _
        rw [(div_row hj).1, (div_row hj).2]
        unfold gridOf
        rw [show R.1 + (i - R.1) = i by omega, show R.2.1 + (j - R.2.1) = j by omega, hc]
/-- The number of rooms of a plan, as the reference counts them. -/
theorem plan_rooms {p : List ByteArray} (h : planG p = true) : ∃ k, spec_l1Rooms.f k p = some ((boxesP p).length : Int) := by
  have F := planFacts h
  obtain ⟨hT, h1, h3⟩ := textGrid_of F.let_ F.shape
  have hN := named_of F.let_ F.shape F.named
  obtain ⟨k, hk⟩ := rooms_f hT
  change Named (wdP p) (fP p) (p.length * wdP p) at hN
  change spec_l1Rooms.f k p = some (rmx (fP p) (p.length * wdP p)) at hk
  rw [rmx_named hN _ (Nat.le_refl _), scan_len, ← boxesP_scan] at hk
  exact ⟨k, hk⟩
/-- What the reference has found behind k rooms. -/
def outK (boxes : List Box) : Option Rc → Nat → List Int
  | none, _ => []
  | some R, k => listL boxes (boxR R) k
theorem outK_len (boxes : List Box) (o : Option Rc) (k : Nat) : (outK boxes o k).length ≤ k := by
  cases o with
  | none => exact Nat.zero_le _
  | some R => exact listL_len _ _ _
theorem outK_rooms (p : List ByteArray) : outK (boxesP p) (stuckO p) (boxesP p).length = stuckRooms p := by
  unfold stuckRooms
  cases stuckO p <;> rfl
end Go.Proofs.Ytiehiockjlhbcaa
