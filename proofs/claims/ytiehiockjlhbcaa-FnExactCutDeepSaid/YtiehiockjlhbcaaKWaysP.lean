/- The plain law of ways and depths: rooms of both parts of a cut; the number of ways; its bound. -/
import Derived.Test.YtiehiockjlhbcaaKFlat
namespace Go.Proofs.Ytiehiockjlhbcaa
open Go.RowKit Go.Shelf Go.Proofs.YtiehiockjlhbcaaW.PrintWords Go.Proofs.YtiehiockjlhbcaaW.PrintMore
set_option linter.unusedVariables false

/-- How many rooms a part has. -/
def roomsN (boxes : List Box) (r c ph pw : Nat) : Nat := (listL boxes (natB r c ph pw) boxes.length).length
theorem rooms_pos {cl : Nat → Nat → Int} {boxes : List Box} {h wd r c ph pw : Nat} (f : Flat cl boxes h wd) (hw : Whole cl h wd r c ph pw) : 1 ≤ roomsN boxes r c ph pw := by
  have hs := hw.some
  have := (listL_iff f hw (cl r c)).2 ⟨r, c, ⟨⟨by omega, by omega⟩, by omega, by omega⟩, rfl⟩
  exact List.length_pos_of_mem this
theorem listL_split {boxes : List Box} {b b1 b2 : Box} (hs : ∀ k (hk : k < boxes.length), (bothB b boxes[k] = b ↔ bothB b1 boxes[k] = b1 ∨ bothB b2 boxes[k] = b2) ∧ ¬ (bothB b1 boxes[k] = b1 ∧ bothB b2 boxes[k] = b2)) :
    ∀ n, n ≤ boxes.length → (listL boxes b n).length = (listL boxes b1 n).length + (listL boxes b2 n).length := by
  intro n
  induction n with
  | zero => intro _; rfl
  | succ n ih =>
    intro hn
    have ih := ih (by omega)
    obtain ⟨e1, e2⟩ := hs n (by omega)
    unfold listL
    rw [List.length_append, List.length_append, List.length_append, List.getD_eq_getElem?_getD, List.getElem?_eq_getElem (by omega), Option.getD_some]
    by_cases h1 : bothB b1 boxes[n] = b1
    · by_cases h2 : bothB b2 boxes[n] = b2
      · exact absurd ⟨h1, h2⟩ e2
      · rw [if_pos (e1.2 (.inl h1)), if_pos h1, if_neg h2]; simp; omega
    · by_cases h2 : bothB b2 boxes[n] = b2
      · rw [if_pos (e1.2 (.inr h2)), if_neg h1, if_pos h2]; simp; omega
      · rw [if_neg (fun h => (e1.1 h).elim h1 h2), if_neg h1, if_neg h2]; simp; omega
/-- The rooms of a part are those of both parts of a cut. -/
theorem rooms_split {cl : Nat → Nat → Int} {boxes : List Box} {h wd r c ph pw : Nat} (f : Flat cl boxes h wd) (hw : Whole cl h wd r c ph pw) {x : Bool × Nat} (hx : x ∈ cutsL cl r c ph pw) :
    roomsN boxes r c ph pw = roomsN boxes (oneR r c ph pw x).1 (oneR r c ph pw x).2.1 (oneR r c ph pw x).2.2.1 (oneR r c ph pw x).2.2.2 + roomsN boxes (twoR r c ph pw x).1 (twoR r c ph pw x).2.1 (twoR r c ph pw x).2.2.1 (twoR r c ph pw x).2.2.2 := by
  obtain ⟨w1, w2⟩ := whole_parts f hw hx
  have hin := cutsL_in hx
  refine listL_split (fun k hk => ?_) _ (Nat.le_refl _)
  have q0 := room_within f hw k hk
  have q1 := room_within f w1 k hk
  have q2 := room_within f w2 k hk
  rw [q0, q1, q2]
  obtain ⟨b, l⟩ := x
  cases b with
  | false =>
    simp only [Bool.false_eq_true, if_false] at hin
    simp only [oneR, twoR, Bool.false_eq_true, if_false]
    constructor
    · constructor
      · rintro ⟨i, j, ⟨a1, a2, a3⟩, hc⟩
        by_cases hj : j < l
        · exact .inl ⟨i, j, ⟨a1, a2, by omega⟩, hc⟩
        · exact .inr ⟨i, j, ⟨a1, by omega, by omega⟩, hc⟩
      · rintro (⟨i, j, ⟨a1, a2, a3⟩, hc⟩ | ⟨i, j, ⟨a1, a2, a3⟩, hc⟩)
        · exact ⟨i, j, ⟨a1, a2, by omega⟩, hc⟩
        · exact ⟨i, j, ⟨a1, by omega, by omega⟩, hc⟩
    · rintro ⟨⟨i, j, ⟨a1, a2, a3⟩, hc⟩, ⟨i', j', ⟨b1, b2, b3⟩, hc'⟩⟩
      have := side_up f hw ⟨hin.1, hin.2.1⟩ hin.2.2 (i := i) (j := j) (i' := i') (j' := j') ⟨a1, a2, by omega⟩ ⟨b1, by omega, by omega⟩ (by rw [hc, hc'])
      omega
  | true =>
    simp only [if_true] at hin
    simp only [oneR, twoR, if_true]
    constructor
    · constructor
      · rintro ⟨i, j, ⟨⟨a1, a2⟩, a3⟩, hc⟩
        by_cases hj : i < l
        · exact .inl ⟨i, j, ⟨⟨a1, by omega⟩, a3⟩, hc⟩
        · exact .inr ⟨i, j, ⟨⟨by omega, by omega⟩, a3⟩, hc⟩
      · rintro (⟨i, j, ⟨⟨a1, a2⟩, a3⟩, hc⟩ | ⟨i, j, ⟨⟨a1, a2⟩, a3⟩, hc⟩)
        · exact ⟨i, j, ⟨⟨a1, by omega⟩, a3⟩, hc⟩
        · exact ⟨i, j, ⟨⟨by omega, by omega⟩, a3⟩, hc⟩
    · rintro ⟨⟨i, j, ⟨⟨a1, a2⟩, a3⟩, hc⟩, ⟨i', j', ⟨⟨b1, b2⟩, b3⟩, hc'⟩⟩
      have := side_lv f hw ⟨hin.1, hin.2.1⟩ hin.2.2 (i := i) (j := j) (i' := i') (j' := j') ⟨⟨a1, by omega⟩, a3⟩ ⟨⟨by omega, by omega⟩, b3⟩ (by rw [hc, hc'])
      omega
/-- The number of ways to cut. -/
def waysN (cl : Nat → Nat → Int) (boxes : List Box) : Nat → Rc → Nat
  | 0, _ => 0
  | n + 1, (r, c, ph, pw) => if (listL boxes (natB r c ph pw) boxes.length).length = 1 then 1 else ((cutsL cl r c ph pw).map fun x => waysN cl boxes n (oneR r c ph pw x) * waysN cl boxes n (twoR r c ph pw x)).sum
theorem linesL_len (cl : Nat → Nat → Int) (level : Bool) (lo from_ long n : Nat) : (linesL cl level lo from_ long n).length ≤ n := by
  induction n with
  | zero => exact Nat.le_refl _
  | succ n ih =>
    unfold linesL
    rw [List.length_append]
    split <;> simp <;> omega
theorem cutsL_len (cl : Nat → Nat → Int) (r c ph pw : Nat) : (cutsL cl r c ph pw).length ≤ (pw - 1) + (ph - 1) := by
  unfold cutsL
  rw [List.length_append]
  have := linesL_len cl false c r ph (pw - 1)
  have := linesL_len cl true r c pw (ph - 1)
  omega
end Go.Proofs.Ytiehiockjlhbcaa
