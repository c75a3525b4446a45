/- The plain law of ways and depths: rooms of both parts of a cut; the number of ways; its bound. -/
import Derived.Test.YtiehiockjlhbcaaKFlat
namespace Go.Proofs.Ytiehiockjlhbcaa
open Go.RowKit Go.Shelf Go.Proofs.YtiehiockjlhbcaaW.PrintWords Go.Proofs.YtiehiockjlhbcaaW.PrintMore
set_option linter.unusedVariables false

/-- How many rooms a part has. -/
def roomsN (boxes : List Box) (r c ph pw : Nat) : Nat := (listL boxes (natB r c ph pw) boxes.length).length
theorem rooms_pos {cl : Nat → Nat → Int} {boxes : List Box} {h wd r c ph pw : Nat} (f : Flat cl boxes h wd) (hw : Whole cl h wd r c ph pw) : 1 ≤ roomsN boxes r c ph pw := by
  have hs := hw.some
  have := (listL_iff f hw (cl r c)).2 ⟨r, c, ⟨⟨by omega, by omega⟩, by omega, by omega⟩, rfl⟩
  exact List.length_pos_of_mem this
theorem listL_split {boxes : List Box} {b b1 b2 : Box} (hs : ∀ k (hk : k < boxes.length), (bothB b boxes[k] = b ↔ bothB b1 boxes[k] = b1 ∨ bothB b2 boxes[k] = b2) ∧ ¬ (bothB b1 boxes[k] = b1 ∧ bothB b2 boxes[k] = b2)) :
    ∀ n, n ≤ boxes.length → (listL boxes b n).length = (listL boxes b1 n).length + (listL boxes b2 n).length := by
  intro n
  induction n with
  | zero => intro _; rfl
  | succ n ih =>
    intro hn
    have ih := ih (by omega)
    obtain ⟨e1, e2⟩ := hs n (by omega)
    unfold listL
    rw [List.length_append, List.length_append, List.length_append, List.getD_eq_getElem?_getD, List.getElem?_eq_getElem (by omega), Option.getD_some]
    by_cases h1 : bothB b1 boxes[n] = b1
    · by_cases h2 : bothB b2 boxes[n] = b2
      · exact absurd ⟨h1, h2⟩ e2
      · rw [if_pos (e1.2 (.inl h1)), if_pos h1, if_neg h2]; simp; omega
    · by_cases h2 : bothB b2 boxes[n] = b2
      · rw [if_pos (e1.2 (.inr h2)), if_neg h1, if_pos h2]; simp; omega
      · rw [if_neg (fun h => (e1.1 h).elim h1 h2), if_neg h1, if_neg h2]; simp; omega
/-- The rooms of a part are those of both parts of a cut. -/
theorem rooms_split {cl : Nat → Nat → Int} {boxes : List Box} {h wd r c ph pw : Nat} (f : Flat cl boxes h wd) (hw : Whole cl h wd r c ph pw) {x : Bool × Nat} (hx : x ∈ cutsL cl r c ph pw) :
    roomsN boxes r c ph pw = roomsN boxes (oneR r c ph pw x).1 (oneR r c ph pw x).2.1 (oneR r c ph pw x).2.2.1 (oneR r c ph pw x).2.2.2 + roomsN boxes (twoR r c ph pw x).1 (twoR r c ph pw x).2.1 (twoR r c ph pw x).2.2.1 (twoR r c ph pw x).2.2.2 := by
  obtain ⟨w1, w2⟩ := whole_parts f hw hx
  have hin := cutsL_in hx
  refine listL_split (fun k hk => ?_) _ (Nat.le_refl _)
  have q0 := room_within f hw k hk
  have q1 := room_within f w1 k hk
  have q2 := room_within f w2 k hk
  rw [q0, q1, q2]
  obtain ⟨b, l⟩ := x
  cases b with
  | false =>
    simp only [Bool.false_eq_true, if_false] at hin
    simp only [oneR, twoR, Bool.false_eq_true, if_false]
    constructor
    · constructor
      · rintro ⟨i, j, ⟨a1, a2, a3⟩, hc⟩
        by_cases hj : j < l
        · exact .inl ⟨i, j, ⟨a1, a2, by omega⟩, hc⟩
        · exact .inr ⟨i, j, ⟨a1, by omega, by omega⟩, hc⟩
      · rintro (⟨i, j, ⟨a1, a2, a3⟩, hc⟩ | ⟨i, j, ⟨a1, a2, a3⟩, hc⟩)
        · exact ⟨i, j, ⟨a1, a2, by omega⟩, hc⟩
        · exact ⟨i, j, ⟨a1, by omega, by omega⟩, hc⟩
    · rintro ⟨⟨i, j, ⟨a1, a2, a3⟩, hc⟩, ⟨i', j', ⟨b1, b2, b3⟩, hc'⟩⟩
      have := side_up f hw ⟨hin.1, hin.2.1⟩ hin.2.2 (i := i) (j := j) (i' := i') (j' := j') ⟨a1, a2, by omega⟩ ⟨b1, by omega, by omega⟩ (by rw [hc, hc'])
      omega
  | true =>
    simp only [if_true] at hin
    simp only [oneR, twoR, if_true]
    constructor
    · constructor
      · rintro ⟨i, j, ⟨⟨a1, a2⟩, a3⟩, hc⟩
        by_cases hj : i < l
        · exact .inl ⟨i, j, ⟨⟨a1, by omega⟩, a3⟩, hc⟩
        · exact .inr ⟨i, j, ⟨⟨by omega, by omega⟩, a3⟩, hc⟩
      · rintro (⟨i, j, ⟨⟨a1, a2⟩, a3⟩, hc⟩ | ⟨i, j, ⟨⟨a1, a2⟩, a3⟩, hc⟩)
        · exact ⟨i, j, ⟨⟨a1, by omega⟩, a3⟩, hc⟩
        · exact ⟨i, j, ⟨⟨by omega, by omega⟩, a3⟩, hc⟩
    · rintro ⟨⟨i, j, ⟨⟨a1, a2⟩, a3⟩, hc⟩, ⟨i', j', ⟨⟨b1, b2⟩, b3⟩, hc'⟩⟩
      have := side_lv f hw ⟨hin.1, hin.2.1⟩ hin.2.2 (i := i) (j := j) (i' := i') (j' := j') ⟨⟨a1, by omega⟩, a3⟩ ⟨⟨by omega, by omega⟩, b3⟩ (by rw [hc, hc'])
      omega
theorem rooms_few {cl : Nat → Nat → Int} {boxes : List Box} {h wd r c ph pw : Nat} (f : Flat cl boxes h wd) : roomsN boxes r c ph pw ≤ 9 := Nat.le_trans (listL_len _ _ _) f.few

/-- The number of ways to cut. -/
def waysN (cl : Nat → Nat → Int) (boxes : List Box) : Nat → Rc → Nat
  | 0, _ => 0
  | n + 1, (r, c, ph, pw) => if (listL boxes (natB r c ph pw) boxes.length).length = 1 then 1 else ((cutsL cl r c ph pw).map fun x => waysN cl boxes n (oneR r c ph pw x) * waysN cl boxes n (twoR r c ph pw x)).sum
theorem linesL_len (cl : Nat → Nat → Int) (level : Bool) (lo from_ long n : Nat) : (linesL cl level lo from_ long n).length ≤ n := by
  induction n with
  | zero => exact Nat.le_refl _
  | succ n ih =>
    unfold linesL
    rw [List.length_append]
    split <;> simp <;> omega
theorem cutsL_len (cl : Nat → Nat → Int) (r c ph pw : Nat) : (cutsL cl r c ph pw).length ≤ (pw - 1) + (ph - 1) := by
  unfold cutsL
  rw [List.length_append]
  have := linesL_len cl false c r ph (pw - 1)
  have := linesL_len cl true r c pw (ph - 1)
  omega
theorem sumB_le {α : Type} (l : List α) (g : α → Nat) (B : Nat) (h : ∀ x ∈ l, g x ≤ B) : (l.map g).sum ≤ l.length * B := by
  induction l with
  | nil => simp
  | cons a l ih =>
    rw [List.map_cons, List.sum_cons, List.length_cons, Nat.succ_mul]
    have := ih (fun x hx => h x (List.mem_cons_of_mem _ hx))
    have := h a List.mem_cons_self
    omega
theorem ways_bound {cl : Nat → Nat → Int} {boxes : List Box} {h wd : Nat} (f : Flat cl boxes h wd) : ∀ (n r c ph pw : Nat), Whole cl h wd r c ph pw → waysN cl boxes n (r, c, ph, pw) ≤ 10 ^ (roomsN boxes r c ph pw - 1) ∧
    ∀ x ∈ cutsL cl r c ph pw, waysN cl boxes n (oneR r c ph pw x) * waysN cl boxes n (twoR r c ph pw x) ≤ 10 ^ (roomsN boxes r c ph pw - 2) := by
  intro n
  induction n with
  | zero => intro r c ph pw _; exact ⟨Nat.zero_le _, fun x _ => by simp [waysN]⟩
  | succ n ih =>
    intro r c ph pw hw
    have step : ∀ m, (∀ r c ph pw, Whole cl h wd r c ph pw → waysN cl boxes m (r, c, ph, pw) ≤ 10 ^ (roomsN boxes r c ph pw - 1)) → ∀ r c ph pw, Whole cl h wd r c ph pw → ∀ x ∈ cutsL cl r c ph pw, waysN cl boxes m (oneR r c ph pw x) * waysN cl boxes m (twoR r c ph pw x) ≤ 10 ^ (roomsN boxes r c ph pw - 2) := by
      intro m hm r c ph pw hw x hx
      obtain ⟨w1, w2⟩ := whole_parts f hw hx
      have e := rooms_split f hw hx
      have p1 := rooms_pos f w1
      have p2 := rooms_pos f w2
      have a1 : waysN cl boxes m (oneR r c ph pw x) ≤ 10 ^ (roomsN boxes (oneR r c ph pw x).1 (oneR r c ph pw x).2.1 (oneR r c ph pw x).2.2.1 (oneR r c ph pw x).2.2.2 - 1) := hm _ _ _ _ w1
      have a2 : waysN cl boxes m (twoR r c ph pw x) ≤ 10 ^ (roomsN boxes (twoR r c ph pw x).1 (twoR r c ph pw x).2.1 (twoR r c ph pw x).2.2.1 (twoR r c ph pw x).2.2.2 - 1) := hm _ _ _ _ w2
      refine Nat.le_trans (Nat.mul_le_mul a1 a2) ?_
      rw [← Nat.pow_add]
      exact Nat.pow_le_pow_right (by omega) (by omega)
    have first : ∀ r c ph pw, Whole cl h wd r c ph pw → waysN cl boxes (n + 1) (r, c, ph, pw) ≤ 10 ^ (roomsN boxes r c ph pw - 1) := by
      intro r c ph pw hw
      unfold waysN
      split
      · exact Nat.one_le_pow _ _ (by omega)
      · rename_i hne
        have hpos := rooms_pos f hw
        have h2 : 2 ≤ roomsN boxes r c ph pw := by unfold roomsN at hpos ⊢; omega
        have hl := cutsL_len cl r c ph pw
        have hh := f.high
        have hwd := f.wide
        have hrow := hw.row
        have hcol := hw.col
        refine Nat.le_trans (sumB_le _ _ _ (fun x hx => (ih r c ph pw hw).2 x hx)) ?_
        rw [show roomsN boxes r c ph pw - 1 = (roomsN boxes r c ph pw - 2) + 1 by omega, Nat.pow_succ, Nat.mul_comm]
        exact Nat.mul_le_mul_left _ (by omega)
    exact ⟨first r c ph pw hw, step (n + 1) first r c ph pw hw⟩
theorem ways_small {cl : Nat → Nat → Int} {boxes : List Box} {h wd : Nat} (f : Flat cl boxes h wd) (n r c ph pw : Nat) (hw : Whole cl h wd r c ph pw) : waysN cl boxes n (r, c, ph, pw) ≤ 100000000 :=
  Nat.le_trans (ways_bound f n r c ph pw hw).1 (Nat.le_trans (Nat.pow_le_pow_right (by omega) (show roomsN boxes r c ph pw - 1 ≤ 8 by have := rooms_few (r := r) (c := c) (ph := ph) (pw := pw) f; omega)) (by decide))
/-- The sum over the first cuts. -/
def waysSum (cl : Nat → Nat → Int) (boxes : List Box) (n r c ph pw : Nat) (pre : List (Bool × Nat)) : Nat := (pre.map fun x => waysN cl boxes n (oneR r c ph pw x) * waysN cl boxes n (twoR r c ph pw x)).sum
theorem waysSum_snoc (cl : Nat → Nat → Int) (boxes : List Box) (n r c ph pw : Nat) (pre : List (Bool × Nat)) (x : Bool × Nat) : waysSum cl boxes n r c ph pw (pre ++ [x]) = waysSum cl boxes n r c ph pw pre + waysN cl boxes n (oneR r c ph pw x) * waysN cl boxes n (twoR r c ph pw x) := by
  unfold waysSum
  rw [List.map_append, List.sum_append]; simp
theorem waysSum_pre {cl : Nat → Nat → Int} {boxes : List Box} {h wd : Nat} (f : Flat cl boxes h wd) (n r c ph pw : Nat) (hw : Whole cl h wd r c ph pw) {pre : List (Bool × Nat)} (hp : pre <+: cutsL cl r c ph pw) : waysSum cl boxes n r c ph pw pre ≤ 1000000000 := by
  have hb := (ways_bound f n r c ph pw hw).2
  have hl := cutsL_len cl r c ph pw
  have hh := f.high
  have hwd := f.wide
  have hrow := hw.row
  have hcol := hw.col
  have h8 : 10 ^ (roomsN boxes r c ph pw - 2) ≤ 100000000 := Nat.le_trans (Nat.pow_le_pow_right (by omega) (show roomsN boxes r c ph pw - 2 ≤ 8 by have := rooms_few (r := r) (c := c) (ph := ph) (pw := pw) f; omega)) (by decide)
  refine Nat.le_trans (sumB_le _ _ 100000000 (fun x hx => Nat.le_trans (hb x (hp.subset hx)) h8)) ?_
  have := hp.length_le
  have : pre.length ≤ 10 := by omega
  exact Nat.le_trans (Nat.mul_le_mul_right _ this) (by decide)
end Go.Proofs.Ytiehiockjlhbcaa
