/- Plain: rooms inside of a rectangle whose areas fill it are all that it touches. -/
import Derived.Test.YtdhnjecbdclmaaaKIPlanTurnM
import Derived.Test.YtdhnjecbdclmaaaKIHered
namespace Go.Proofs.Ytdhnjecbdclmaaa
open Go.RowKit Go.Shelf Go.Proofs.YtdhnjecbdclmaaaW.PrintWords Go.Proofs.YtdhnjecbdclmaaaW.PrintMore
set_option linter.unusedVariables false
set_option linter.unusedSimpArgs false
def cnt1 (P : Nat → Prop) [DecidablePred P] : Nat → Nat
  | 0 => 0
  | n + 1 => cnt1 P n + if P n then 1 else 0
section
variable {P Q : Nat → Prop} [DecidablePred P] [DecidablePred Q]
theorem cnt1_int (a d : Nat) (n : Nat) : cnt1 (fun i => a ≤ i ∧ i < a + d) n = min n (a + d) - min n a := by
  induction n with
  | zero => simp [cnt1]
  | succ n ih =>
    unfold cnt1
    rw [ih]
    by_cases h : a ≤ n ∧ n < a + d
    · rw [if_pos h]; omega
    · rw [if_neg h]; omega
end
def sumR (g : Nat → Nat) : Nat → Nat
  | 0 => 0
  | n + 1 => sumR g n + g n
theorem sumR_congr {g k : Nat → Nat} (n : Nat) (h : ∀ i, i < n → g i = k i) : sumR g n = sumR k n := by
  induction n with
  | zero => rfl
  | succ n ih => unfold sumR; rw [ih (fun i hi => h i (by omega)), h n (by omega)]
theorem sumR_box (a d e : Nat) (n : Nat) : sumR (fun i => if a ≤ i ∧ i < a + d then e else 0) n = (min n (a + d) - min n a) * e := by
  induction n with
  | zero => simp [sumR]
  | succ n ih =>
    unfold sumR
    rw [ih]
    by_cases h : a ≤ n ∧ n < a + d
    · rw [if_pos h, show min (n + 1) (a + d) - min (n + 1) a = (min n (a + d) - min n a) + 1 by omega, Nat.succ_mul]
    · rw [if_neg h, show min (n + 1) (a + d) - min (n + 1) a = min n (a + d) - min n a by omega]; rfl
theorem cnt1_congr {P Q : Nat → Prop} [DecidablePred P] [DecidablePred Q] (n : Nat) (h : ∀ i, i < n → (P i ↔ Q i)) : cnt1 P n = cnt1 Q n := by
  induction n with
  | zero => rfl
  | succ n ih =>
    unfold cnt1
    rw [ih (fun i hi => h i (by omega))]
    by_cases hp : P n
    · rw [if_pos hp, if_pos ((h n (by omega)).1 hp)]
    · rw [if_neg hp, if_neg (fun hq => hp ((h n (by omega)).2 hq))]
theorem cnt1_none {P : Nat → Prop} [DecidablePred P] (n : Nat) (h : ∀ i, i < n → ¬ P i) : cnt1 P n = 0 := by
  induction n with
  | zero => rfl
  | succ n ih => unfold cnt1; rw [ih (fun i hi => h i (by omega)), if_neg (h n (by omega))]
theorem cells_room {cl : Nat → Nat → Int} {boxes : List Box} {h wd r c ph pw : Nat} (f : Flat cl boxes h wd) (hr : r + ph ≤ h) (hc : c + pw ≤ wd) (k : Nat) (hk : k < boxes.length) (hin : bothB (natB r c ph pw) boxes[k] = natB r c ph pw) :
    ((sumR (fun i => cnt1 (fun j => cl (r + i) (c + j) = (k : Int)) pw) ph : Nat) : Int) = areaB boxes[k] := by
  obtain ⟨a, b, d, e, hb, h1, h2, h3, h4, hcl⟩ := f.box k hk
  rw [hb, both_within] at hin
  rw [hb]
  have e1 : sumR (fun i => cnt1 (fun j => cl (r + i) (c + j) = (k : Int)) pw) ph = sumR (fun i => if a - r ≤ i ∧ i < a - r + d then e else 0) ph := by
    refine sumR_congr ph fun i hi => ?_
    by_cases hio : a - r ≤ i ∧ i < a - r + d
    · rw [if_pos hio, cnt1_congr (Q := fun j => b - c ≤ j ∧ j < b - c + e) pw (fun j hj => by rw [hcl (r + i) (c + j) (by omega) (by omega)]; omega), cnt1_int]
      omega
    · rw [if_neg hio]
      exact cnt1_none pw (fun j hj hcj => by rw [hcl (r + i) (c + j) (by omega) (by omega)] at hcj; omega)
  rw [e1, sumR_box, show min ph (a - r + d) - min ph (a - r) = d by omega]
  show ((d * e : Nat) : Int) = (d : Int) * (e : Int)
  rw [Int.natCast_mul]
end Go.Proofs.Ytdhnjecbdclmaaa
