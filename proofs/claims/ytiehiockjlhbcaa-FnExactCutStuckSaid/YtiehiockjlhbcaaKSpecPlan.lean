/- The reference's PlanIn answers as the program does, in plain Lean. -/
import Derived.Test.YtiehiockjlhbcaaKSpecRooms
namespace Go.Proofs.Ytiehiockjlhbcaa
open Go.RowKit Go.Shelf Go.Proofs.YtiehiockjlhbcaaW.PrintWords Go.Proofs.YtiehiockjlhbcaaW.PrintMore L2
set_option linter.unusedVariables false

theorem room_from {p : List ByteArray} {wd : Nat} {f : Nat → Int} (h : TextGrid p wd f) (r H W : Int) (hr : 0 ≤ r ∧ r ≤ 100) : ∀ d i, p.length - i = d → i ≤ p.length → ∃ k, spec_l1Room.l0 k p r (endsOf wd f r H W (i * wd)).1 (endsOf wd f r H W (i * wd)).2.1 (endsOf wd f r H W (i * wd)).2.2.1 (endsOf wd f r H W (i * wd)).2.2.2 (i : Int) =
    some ((endsOf wd f r H W (p.length * wd)).1, (endsOf wd f r H W (p.length * wd)).2.1, wrap64 (wrap64 ((endsOf wd f r H W (p.length * wd)).2.2.1 - (endsOf wd f r H W (p.length * wd)).1) + 1), wrap64 (wrap64 ((endsOf wd f r H W (p.length * wd)).2.2.2 - (endsOf wd f r H W (p.length * wd)).2.1) + 1)) := by
  intro d
  induction d with
  | zero =>
    intro i hd hi
    have : i = p.length := by omega
    subst this
    refine ⟨1, ?_⟩
    unfold spec_l1Room.l0
    rw [if_neg (by omega)]
  | succ d ih =>
    intro i hd hi
    obtain ⟨k, hk⟩ := room_row h r H W i (by omega) _ (ih (i + 1) (by omega) (by omega)) hr _ 0 rfl (Nat.zero_le _)
    refine ⟨k + 1, ?_⟩
    unfold spec_l1Room.l0
    rw [if_pos (by omega)]
    exact hk
def boxE (e : Ends) : Box := (e.1, e.2.1, e.2.2.1 - e.1 + 1, e.2.2.2 - e.2.1 + 1)
theorem ends_none {wd : Nat} {f : Nat → Int} {r H W : Int} : ∀ n, (∀ m, m < n → f m ≠ 97 + r) → endsOf wd f r H W n = (H, W, -1, -1) := by
  intro n
  induction n with
  | zero => intro _; rfl
  | succ n ih =>
    intro h
    unfold endsOf
    rw [if_neg (h n (by omega))]
    exact ih (fun m hm => h m (by omega))
theorem ends_box {wd : Nat} {f : Nat → Int} {r H W : Int} (N : Nat) (hH : ∀ m, m < N → ((m / wd : Nat) : Int) ≤ H) (hW : ∀ m, m < N → ((m % wd : Nat) : Int) ≤ W) : ∀ n, n ≤ N → (∃ m, m < n ∧ f m = 97 + r) → IsBox wd f n (97 + r) (boxE (endsOf wd f r H W n)) := by
  intro n
  induction n with
  | zero => rintro _ ⟨m, hm, _⟩; omega
  | succ n ih =>
    rintro hn ⟨m, hm, he⟩
    by_cases hf : f n = 97 + r
    · have hstep : endsOf wd f r H W (n + 1) = (mn (endsOf wd f r H W n).1 ((n / wd : Nat) : Int), mn (endsOf wd f r H W n).2.1 ((n % wd : Nat) : Int), mx (endsOf wd f r H W n).2.2.1 ((n / wd : Nat) : Int), mx (endsOf wd f r H W n).2.2.2 ((n % wd : Nat) : Int)) := by
        show (if f n = 97 + r then _ else _) = _
        rw [if_pos hf]
      rw [hstep]
      by_cases hex : ∃ m, m < n ∧ f m = 97 + r
      · have hb := ih (by omega) hex
        have hb2 := hb
        rw [← hf] at hb2
        have hm := isBox_more hb2
        rw [hf] at hm
        have e : boxE (mn (endsOf wd f r H W n).1 ((n / wd : Nat) : Int), mn (endsOf wd f r H W n).2.1 ((n % wd : Nat) : Int), mx (endsOf wd f r H W n).2.2.1 ((n / wd : Nat) : Int), mx (endsOf wd f r H W n).2.2.2 ((n % wd : Nat) : Int)) = bothB (boxE (endsOf wd f r H W n)) (cellBox wd n) := by
          unfold boxE bothB cellBox mn mx
          dsimp only
          generalize (endsOf wd f r H W n).1 = a
          generalize (endsOf wd f r H W n).2.1 = b
          generalize (endsOf wd f r H W n).2.2.1 = c
          generalize (endsOf wd f r H W n).2.2.2 = d
          generalize ((n / wd : Nat) : Int) = x
          generalize ((n % wd : Nat) : Int) = y
          refine Prod.ext ?_ (Prod.ext ?_ (Prod.ext ?_ ?_)) <;> dsimp only <;> omega
        rw [e]
        exact hm
      · have hno : ∀ m, m < n → f m ≠ 97 + r := fun m h1 h2 => hex ⟨m, h1, h2⟩
        rw [ends_none n hno]
        have hb := isBox_new (w := wd) (f := f) (n := n) (fun m h1 h2 => hno m h1 (h2.trans hf))
        rw [hf] at hb
        have e : boxE (mn H ((n / wd : Nat) : Int), mn W ((n % wd : Nat) : Int), mx (-1) ((n / wd : Nat) : Int), mx (-1) ((n % wd : Nat) : Int)) = bothB (cellBox wd n) (cellBox wd n) := by
          have h1 := hH n (by omega)
          have h2 := hW n (by omega)
          have h3 : (0 : Int) ≤ ((n / wd : Nat) : Int) := Int.natCast_nonneg _
          have h4 : (0 : Int) ≤ ((n % wd : Nat) : Int) := Int.natCast_nonneg _
          revert h1 h2 h3 h4
          unfold boxE bothB cellBox mn mx
          dsimp only
          generalize ((n / wd : Nat) : Int) = x
          generalize ((n % wd : Nat) : Int) = y
          intro h1 h2 h3 h4
          refine Prod.ext ?_ (Prod.ext ?_ (Prod.ext ?_ ?_)) <;> dsimp only <;> omega
        rw [e]
        exact hb
    · have hstep : endsOf wd f r H W (n + 1) = endsOf wd f r H W n := by
        show (if f n = 97 + r then _ else _) = _
        rw [if_neg hf]
      rw [hstep]
      refine isBox_other hf (ih (by omega) ⟨m, ?_, he⟩)
      by_cases h : m = n
      · subst h; exact absurd he hf
      · omega
theorem room_f {p : List ByteArray} {wd : Nat} {f : Nat → Int} (h : TextGrid p wd f) (h1 : 1 ≤ p.length) (r : Int) (hr : 0 ≤ r ∧ r ≤ 100) (hex : ∃ m, m < p.length * wd ∧ f m = 97 + r) :
    ∃ k b, spec_l1Room.f k p r = some b ∧ IsBox wd f (p.length * wd) (97 + r) b := by
  have hw : 0 < wd := by
    obtain ⟨m, hm, _⟩ := hex
    rcases Nat.eq_zero_or_pos wd with e | e
    · rw [e, Nat.mul_zero] at hm; omega
    · exact e
  have hb := ends_box (r := r) (H := (p.length : Int)) (W := (wd : Int)) (p.length * wd) (fun m hm => by
    have h9 : m / wd < p.length := Nat.div_lt_of_lt_mul (by rw [Nat.mul_comm]; exact hm)
    exact Int.ofNat_le.2 (Nat.le_of_lt h9)) (fun m hm => by have := Nat.mod_lt m hw; omega) (p.length * wd) (Nat.le_refl _) hex
  obtain ⟨k, hk⟩ := room_from h r (p.length : Int) (wd : Int) hr _ 0 rfl (Nat.zero_le _)
  rw [Nat.zero_mul] at hk
  have hsz : ((rdOf ByteArray.empty p 0).size : Int) = (wd : Int) := by
    have := rdOf_at (p := p) (i := 0) (by omega)
    rw [show ((0 : Nat) : Int) = 0 from rfl] at this
    rw [this, h.size 0 (by omega)]
  refine ⟨k, boxE (endsOf wd f r (p.length : Int) (wd : Int) (p.length * wd)), ?_, hb⟩
  unfold spec_l1Room.f
  rw [if_pos (by omega), hsz]
  have hN : p.length * wd ≤ 36 := Nat.mul_le_mul h.high h.wide
  have bd : ∀ m, m < p.length * wd → ((m / wd : Nat) : Int) ≤ 36 ∧ ((m % wd : Nat) : Int) ≤ 36 := fun m hm => by
    have e1 := Nat.div_le_self m wd
    have e3 := Nat.mod_le m wd
    omega
  obtain ⟨p1, p2, p3, p4⟩ := box_nonneg hb
  obtain ⟨m1, a1, a2, a3⟩ := hb.top
  obtain ⟨m2, b1, b2, b3⟩ := hb.low
  obtain ⟨m3, c1, c2, c3⟩ := hb.left
  obtain ⟨m4, d1, d2, d3⟩ := hb.right
  have f1 := bd m1 a1
  have f2 := bd m2 b1
  have f3 := bd m3 c1
  have f4 := bd m4 d1
  refine hk.trans ?_
  revert p1 p2 p3 p4 a3 b3 c3 d3
  unfold boxE
  dsimp only
  generalize (endsOf wd f r (p.length : Int) (wd : Int) (p.length * wd)).1 = a
  generalize (endsOf wd f r (p.length : Int) (wd : Int) (p.length * wd)).2.1 = b
  generalize (endsOf wd f r (p.length : Int) (wd : Int) (p.length * wd)).2.2.1 = c
  generalize (endsOf wd f r (p.length : Int) (wd : Int) (p.length * wd)).2.2.2 = d
  intro p1 p2 p3 p4 a3 b3 c3 d3
  have e1 : wrap64 (wrap64 (c - a) + 1) = c - a + 1 := by unfold wrap64; omega
  have e2 : wrap64 (wrap64 (d - b) + 1) = d - b + 1 := by unfold wrap64; omega
  rw [e1, e2]
end Go.Proofs.Ytiehiockjlhbcaa
