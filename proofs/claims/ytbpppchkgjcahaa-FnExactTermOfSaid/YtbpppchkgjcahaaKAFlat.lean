/- The plain law of floors and their parts: a part along cuts is of whole rooms; its list; its cuts. -/
import Derived.Test.YtbpppchkgjcahaaKASpecCutB
namespace Go.Proofs.Ytbpppchkgjcahaa
open Go.RowKit Go.Shelf Go.Proofs.YtbpppchkgjcahaaW.PrintWords Go.Proofs.YtbpppchkgjcahaaW.PrintMore
set_option linter.unusedVariables false
structure Flat (cl : Nat → Nat → Int) (boxes : List Box) (h wd : Nat) : Prop where
  high : 1 ≤ h ∧ h ≤ 6
  wide : 1 ≤ wd ∧ wd ≤ 6
  few : boxes.length ≤ 9
  num : ∀ i j, i < h → j < wd → ∃ k, k < boxes.length ∧ cl i j = (k : Int)
  box : ∀ k (hk : k < boxes.length), ∃ a b c d : Nat, boxes[k] = natB a b c d ∧ 1 ≤ c ∧ 1 ≤ d ∧ a + c ≤ h ∧ b + d ≤ wd ∧ ∀ i j, i < h → j < wd → (cl i j = (k : Int) ↔ (a ≤ i ∧ i < a + c) ∧ (b ≤ j ∧ j < b + d))
def InR (r c ph pw i j : Nat) : Prop := (r ≤ i ∧ i < r + ph) ∧ (c ≤ j ∧ j < c + pw)
structure Whole (cl : Nat → Nat → Int) (h wd r c ph pw : Nat) : Prop where
  some : 1 ≤ ph ∧ 1 ≤ pw
  row : r + ph ≤ h
  col : c + pw ≤ wd
  all : ∀ i j i' j', InR r c ph pw i j → i' < h → j' < wd → cl i j = cl i' j' → InR r c ph pw i' j'
theorem Flat.whole {cl : Nat → Nat → Int} {boxes : List Box} {h wd : Nat} (f : Flat cl boxes h wd) : Whole cl h wd 0 0 h wd :=
  ⟨⟨f.high.1, f.wide.1⟩, by omega, by omega, fun i j i' j' _ h1 h2 _ => ⟨⟨by omega, by omega⟩, ⟨by omega, by omega⟩⟩⟩
theorem throughL_iff (cl : Nat → Nat → Int) (level : Bool) (line from_ : Nat) : ∀ n, throughL cl level line from_ n = true ↔ ∀ i, i < n → (sidesL cl level line (from_ + i)).1 ≠ (sidesL cl level line (from_ + i)).2 := by
  intro n
  induction n with
  | zero => simp [throughL]
  | succ n ih =>
    unfold throughL
    rw [Bool.and_eq_true, ih, bne_iff_ne]
    constructor
    · rintro ⟨a, b⟩ i hi
      by_cases e : i = n
      · subst e; exact b
      · exact a i (by omega)
    · exact fun h => ⟨fun i hi => h i (by omega), h n (by omega)⟩
theorem thru_up {cl : Nat → Nat → Int} {line from_ n : Nat} (h : throughL cl false line from_ n = true) {i : Nat} (h1 : from_ ≤ i) (h2 : i < from_ + n) : cl i (line - 1) ≠ cl i line := by
  have := (throughL_iff cl false line from_ n).1 h (i - from_) (by omega)
  rw [show from_ + (i - from_) = i by omega] at this
  exact this
theorem thru_lv {cl : Nat → Nat → Int} {line from_ n : Nat} (h : throughL cl true line from_ n = true) {j : Nat} (h1 : from_ ≤ j) (h2 : j < from_ + n) : cl (line - 1) j ≠ cl line j := by
  have := (throughL_iff cl true line from_ n).1 h (j - from_) (by omega)
  rw [show from_ + (j - from_) = j by omega] at this
  exact this
theorem side_up {cl : Nat → Nat → Int} {boxes : List Box} {h wd r c ph pw k : Nat} (f : Flat cl boxes h wd) (hw : Whole cl h wd r c ph pw) (hk : c + 1 ≤ k ∧ k < c + pw) (ht : throughL cl false k r ph = true) {i j i' j' : Nat} (h1 : InR r c ph pw i j) (h2 : InR r c ph pw i' j') (he : cl i j = cl i' j') : (j < k ↔ j' < k) := by
  have hrow := hw.row
  have hcol := hw.col
  have aux : ∀ i j i' j', InR r c ph pw i j → InR r c ph pw i' j' → cl i j = cl i' j' → j < k → j' < k := by
    rintro i j i' j' ⟨⟨a1, a2⟩, a3, a4⟩ ⟨⟨b1, b2⟩, b3, b4⟩ he hj
    apply Classical.byContradiction
    intro hn
    obtain ⟨q, hq, hc⟩ := f.num i j (by omega) (by omega)
    obtain ⟨a, b, c', d, _, _, _, _, _, hb⟩ := f.box q hq
    have e1 := (hb i j (by omega) (by omega)).1 hc
    have e2 := (hb i' j' (by omega) (by omega)).1 (by rw [← he]; exact hc)
    have e3 := (hb i (k - 1) (by omega) (by omega)).2 ⟨e1.1, by omega, by omega⟩
    have e4 := (hb i k (by omega) (by omega)).2 ⟨e1.1, by omega, by omega⟩
    exact thru_up ht a1 a2 (by rw [e3, e4])
  exact ⟨aux i j i' j' h1 h2 he, aux i' j' i j h2 h1 he.symm⟩
theorem side_lv {cl : Nat → Nat → Int} {boxes : List Box} {h wd r c ph pw k : Nat} (f : Flat cl boxes h wd) (hw : Whole cl h wd r c ph pw) (hk : r + 1 ≤ k ∧ k < r + ph) (ht : throughL cl true k c pw = true) {i j i' j' : Nat} (h1 : InR r c ph pw i j) (h2 : InR r c ph pw i' j') (he : cl i j = cl i' j') : (i < k ↔ i' < k) := by
  have hrow := hw.row
  have hcol := hw.col
  have aux : ∀ i j i' j', InR r c ph pw i j → InR r c ph pw i' j' → cl i j = cl i' j' → i < k → i' < k := by
    rintro i j i' j' ⟨⟨a1, a2⟩, a3, a4⟩ ⟨⟨b1, b2⟩, b3, b4⟩ he hj
    apply Classical.byContradiction
    intro hn
    obtain ⟨q, hq, hc⟩ := f.num i j (by omega) (by omega)
    obtain ⟨a, b, c', d, _, _, _, _, _, hb⟩ := f.box q hq
    have e1 := (hb i j (by omega) (by omega)).1 hc
    have e2 := (hb i' j' (by omega) (by omega)).1 (by rw [← he]; exact hc)
    have e3 := (hb (k - 1) j (by omega) (by omega)).2 ⟨⟨by omega, by omega⟩, e1.2⟩
    have e4 := (hb k j (by omega) (by omega)).2 ⟨⟨by omega, by omega⟩, e1.2⟩
    exact thru_lv ht a3 a4 (by rw [e3, e4])
  exact ⟨aux i j i' j' h1 h2 he, aux i' j' i j h2 h1 he.symm⟩
theorem whole_up {cl : Nat → Nat → Int} {boxes : List Box} {h wd r c ph pw k : Nat} (f : Flat cl boxes h wd) (hw : Whole cl h wd r c ph pw) (hk : c + 1 ≤ k ∧ k < c + pw) (ht : throughL cl false k r ph = true) : Whole cl h wd r c ph (k - c) ∧ Whole cl h wd r k ph (pw - (k - c)) := by
  have hrow := hw.row
  have hcol := hw.col
  refine ⟨⟨⟨hw.some.1, by omega⟩, by omega, by omega, fun i j i' j' hi a b he => ?_⟩, ⟨⟨hw.some.1, by omega⟩, by omega, by omega, fun i j i' j' hi a b he => ?_⟩⟩
  · obtain ⟨⟨a1, a2⟩, a3, a4⟩ := hi
    have h1 : InR r c ph pw i j := ⟨⟨a1, a2⟩, by omega, by omega⟩
    have h2 := hw.all i j i' j' h1 a b he
    have h3 := side_up f hw hk ht h1 h2 he
    exact ⟨h2.1, h2.2.1, by have := h2.2.2; omega⟩
  · obtain ⟨⟨a1, a2⟩, a3, a4⟩ := hi
    have h1 : InR r c ph pw i j := ⟨⟨a1, a2⟩, by omega, by omega⟩
    have h2 := hw.all i j i' j' h1 a b he
    have h3 := side_up f hw hk ht h1 h2 he
    exact ⟨h2.1, by omega, by have := h2.2.2; omega⟩
theorem whole_lv {cl : Nat → Nat → Int} {boxes : List Box} {h wd r c ph pw k : Nat} (f : Flat cl boxes h wd) (hw : Whole cl h wd r c ph pw) (hk : r + 1 ≤ k ∧ k < r + ph) (ht : throughL cl true k c pw = true) : Whole cl h wd r c (k - r) pw ∧ Whole cl h wd k c (ph - (k - r)) pw := by
  have hrow := hw.row
  have hcol := hw.col
  refine ⟨⟨⟨by omega, hw.some.2⟩, by omega, by omega, fun i j i' j' hi a b he => ?_⟩, ⟨⟨by omega, hw.some.2⟩, by omega, by omega, fun i j i' j' hi a b he => ?_⟩⟩
  · obtain ⟨⟨a1, a2⟩, a3, a4⟩ := hi
    have h1 : InR r c ph pw i j := ⟨⟨by omega, by omega⟩, a3, a4⟩
    have h2 := hw.all i j i' j' h1 a b he
    have h3 := side_lv f hw hk ht h1 h2 he
    exact ⟨⟨h2.1.1, by have := h2.1.2; omega⟩, h2.2⟩
  · obtain ⟨⟨a1, a2⟩, a3, a4⟩ := hi
    have h1 : InR r c ph pw i j := ⟨⟨by omega, by omega⟩, a3, a4⟩
    have h2 := hw.all i j i' j' h1 a b he
    have h3 := side_lv f hw hk ht h1 h2 he
    exact ⟨⟨by omega, by have := h2.1.2; omega⟩, h2.2⟩
theorem whole_parts {cl : Nat → Nat → Int} {boxes : List Box} {h wd r c ph pw : Nat} (f : Flat cl boxes h wd) (hw : Whole cl h wd r c ph pw) {x : Bool × Nat} (hx : x ∈ cutsL cl r c ph pw) :
    Whole cl h wd (oneR r c ph pw x).1 (oneR r c ph pw x).2.1 (oneR r c ph pw x).2.2.1 (oneR r c ph pw x).2.2.2 ∧ Whole cl h wd (twoR r c ph pw x).1 (twoR r c ph pw x).2.1 (twoR r c ph pw x).2.2.1 (twoR r c ph pw x).2.2.2 := by
  have hc := cutsL_in hx
  obtain ⟨b, k⟩ := x
  cases b with
  | true =>
    simp only [if_true] at hc
    exact whole_lv f hw ⟨hc.1, hc.2.1⟩ hc.2.2
  | false =>
    simp only [Bool.false_eq_true, if_false] at hc
    exact whole_up f hw ⟨hc.1, hc.2.1⟩ hc.2.2
theorem both_within {r c ph pw a b d e : Nat} : bothB (natB r c ph pw) (natB a b d e) = natB r c ph pw ↔ (r ≤ a ∧ a + d ≤ r + ph) ∧ (c ≤ b ∧ b + e ≤ c + pw) := by
  unfold bothB natB
  simp only [Prod.mk.injEq]
  omega
theorem room_within {cl : Nat → Nat → Int} {boxes : List Box} {h wd r c ph pw : Nat} (f : Flat cl boxes h wd) (hw : Whole cl h wd r c ph pw) (k : Nat) (hk : k < boxes.length) :
    bothB (natB r c ph pw) boxes[k] = natB r c ph pw ↔ ∃ i j, InR r c ph pw i j ∧ cl i j = (k : Int) := by
  have hrow := hw.row
  have hcol := hw.col
  obtain ⟨a, b, d, e, hb, h1, h2, h3, h4, hin⟩ := f.box k hk
  rw [hb, both_within]
  constructor
  · rintro ⟨⟨c1, c2⟩, c3, c4⟩
    exact ⟨a, b, ⟨⟨by omega, by omega⟩, by omega, by omega⟩, (hin a b (by omega) (by omega)).2 ⟨⟨by omega, by omega⟩, by omega, by omega⟩⟩
  · rintro ⟨i, j, hi, hc⟩
    have p1 := hw.all i j a b hi (by omega) (by omega) (by rw [hc]; exact ((hin a b (by omega) (by omega)).2 ⟨⟨by omega, by omega⟩, by omega, by omega⟩).symm)
    have p2 := hw.all i j (a + d - 1) (b + e - 1) hi (by omega) (by omega) (by rw [hc]; exact ((hin (a + d - 1) (b + e - 1) (by omega) (by omega)).2 ⟨⟨by omega, by omega⟩, by omega, by omega⟩).symm)
    obtain ⟨⟨q1, q2⟩, q3, q4⟩ := p1
    obtain ⟨⟨s1, s2⟩, s3, s4⟩ := p2
    exact ⟨⟨q1, by omega⟩, q3, by omega⟩
theorem listL_iff {cl : Nat → Nat → Int} {boxes : List Box} {h wd r c ph pw : Nat} (f : Flat cl boxes h wd) (hw : Whole cl h wd r c ph pw) (x : Int) :
    x ∈ listL boxes (natB r c ph pw) boxes.length ↔ ∃ i j, InR r c ph pw i j ∧ cl i j = x := by
  have hrow := hw.row
  have hcol := hw.col
  have aux : ∀ n, n ≤ boxes.length → ∀ x, x ∈ listL boxes (natB r c ph pw) n ↔ ∃ k : Nat, k < n ∧ x = (k : Int) ∧ ∃ i j, InR r c ph pw i j ∧ cl i j = (k : Int) := by
    intro n
    induction n with
    | zero => intro _ x; simp [listL]
    | succ n ih =>
      intro hn x
      unfold listL
      rw [List.mem_append, ih (by omega), List.getD_eq_getElem?_getD, List.getElem?_eq_getElem (by omega), Option.getD_some]
      have hr := room_within f hw n (by omega)
      constructor
      · rintro (⟨k, a, b, d⟩ | hx)
        · exact ⟨k, by omega, b, d⟩
        · split at hx
          · rename_i he
            exact ⟨n, by omega, by simpa using hx, hr.1 he⟩
          · cases hx
      · rintro ⟨k, a, b, d⟩
        by_cases e : k = n
        · subst e
          rw [if_pos (hr.2 d)]
          exact .inr (by simpa using b)
        · exact .inl ⟨k, by omega, b, d⟩
  rw [aux _ (Nat.le_refl _)]
  constructor
  · rintro ⟨k, _, rfl, i, j, a, b⟩
    exact ⟨i, j, a, b⟩
  · rintro ⟨i, j, a, rfl⟩
    obtain ⟨⟨a1, a2⟩, a3, a4⟩ := a
    obtain ⟨k, hk, he⟩ := f.num i j (by omega) (by omega)
    exact ⟨k, hk, he, i, j, ⟨⟨a1, a2⟩, a3, a4⟩, he⟩
theorem listL_sorted (boxes : List Box) (b : Box) : ∀ n, (listL boxes b n).Pairwise (· < ·) ∧ ∀ x ∈ listL boxes b n, x < (n : Int) := by
  intro n
  induction n with
  | zero => exact ⟨List.Pairwise.nil, by simp [listL]⟩
  | succ n ih =>
    unfold listL
    refine ⟨List.pairwise_append.2 ⟨ih.1, ?_, ?_⟩, ?_⟩
    · split
      · exact List.pairwise_singleton _ _
      · exact List.Pairwise.nil
    · intro x hx y hy
      have := ih.2 x hx
      split at hy
      · simp at hy; omega
      · cases hy
    · intro x hx
      rcases List.mem_append.1 hx with hx | hx
      · have := ih.2 x hx; push_cast; omega
      · split at hx
        · simp at hx; push_cast; omega
        · cases hx
theorem list_one {cl : Nat → Nat → Int} {boxes : List Box} {h wd r c ph pw : Nat} (f : Flat cl boxes h wd) (hw : Whole cl h wd r c ph pw) :
    (listL boxes (natB r c ph pw) boxes.length).length = 1 ↔ ∀ i j, InR r c ph pw i j → cl i j = cl r c := by
  have hs := hw.some
  have h00 : InR r c ph pw r c := ⟨⟨by omega, by omega⟩, by omega, by omega⟩
  constructor
  · intro h1 i j hi
    obtain ⟨k, hk⟩ := List.length_eq_one_iff.1 h1
    have e1 := (listL_iff f hw (cl i j)).2 ⟨i, j, hi, rfl⟩
    have e2 := (listL_iff f hw (cl r c)).2 ⟨r, c, h00, rfl⟩
    rw [hk, List.mem_singleton] at e1 e2
    rw [e1, e2]
  · intro hall
    have hmem := (listL_iff f hw (cl r c)).2 ⟨r, c, h00, rfl⟩
    have honly : ∀ x ∈ listL boxes (natB r c ph pw) boxes.length, x = cl r c := fun x hx => by
      obtain ⟨i, j, hi, e⟩ := (listL_iff f hw x).1 hx
      rw [← e]; exact hall i j hi
    have hp := (listL_sorted boxes (natB r c ph pw) boxes.length).1
    generalize listL boxes (natB r c ph pw) boxes.length = L at hmem honly hp
    match L, hmem, honly, hp with
    | [a], _, _, _ => rfl
    | a :: b :: l, _, ho, hp =>
      exfalso
      have e1 := ho a (by simp)
      have e2 := ho b (by simp)
      have := (List.pairwise_cons.1 hp).1 b (by simp)
      omega
theorem list_head {cl : Nat → Nat → Int} {boxes : List Box} {h wd r c ph pw : Nat} (f : Flat cl boxes h wd) (hw : Whole cl h wd r c ph pw) (h1 : (listL boxes (natB r c ph pw) boxes.length).length = 1) : listL boxes (natB r c ph pw) boxes.length = [cl r c] := by
  have hs := hw.some
  obtain ⟨k, hk⟩ := List.length_eq_one_iff.1 h1
  have e2 := (listL_iff f hw (cl r c)).2 ⟨r, c, ⟨⟨by omega, by omega⟩, by omega, by omega⟩, rfl⟩
  rw [hk, List.mem_singleton] at e2
  rw [hk, e2]
def gridOf (cl : Nat → Nat → Int) (r c : Nat) : Nat → Nat → Int := fun i j => 97 + cl (r + i) (c + j)
theorem grid_one {cl : Nat → Nat → Int} {boxes : List Box} {h wd r c ph pw : Nat} (f : Flat cl boxes h wd) (hw : Whole cl h wd r c ph pw) : gridAll (gridOf cl r c) pw 0 ph = decide ((listL boxes (natB r c ph pw) boxes.length).length = 1) := by
  rw [Bool.eq_iff_iff, gridAll_iff, decide_eq_true_iff, list_one f hw]
  unfold gridOf
  constructor
  · rintro h1 i j ⟨⟨a1, a2⟩, a3, a4⟩
    have := h1 (i - r) (j - c) (by omega) (by omega) (by omega)
    rw [show r + (i - r) = i by omega, show c + (j - c) = j by omega] at this
    simp only [Nat.add_zero] at this
    omega
  · intro h1 r' c' _ h2 h3
    have := h1 (r + r') (c + c') ⟨⟨by omega, by omega⟩, by omega, by omega⟩
    simp only [Nat.add_zero]
    omega
theorem thru_grid_up (cl : Nat → Nat → Int) (r c ph k : Nat) (hk : 1 ≤ k) : thruG (gridOf cl r c) ph k = throughL cl false (c + k) r ph := by
  rw [Bool.eq_iff_iff, throughL_iff]
  unfold thruG gridOf
  rw [List.all_eq_true]
  simp only [List.mem_range, bne_iff_ne]
  have e : c + k - 1 = c + (k - 1) := by omega
  constructor
  · intro h1 i hi he
    exact h1 i hi (by show 97 + cl _ _ = _; rw [← e]; have : cl (r + i) (c + k - 1) = cl (r + i) (c + k) := he; omega)
  · intro h1 i hi he
    refine h1 i hi ?_
    show cl (r + i) (c + k - 1) = cl (r + i) (c + k)
    rw [e]; omega
theorem thru_grid_lv (cl : Nat → Nat → Int) (r c pw k : Nat) (hk : 1 ≤ k) : thruG (fun i j => gridOf cl r c j i) pw k = throughL cl true (r + k) c pw := by
  rw [Bool.eq_iff_iff, throughL_iff]
  unfold thruG gridOf
  rw [List.all_eq_true]
  simp only [List.mem_range, bne_iff_ne]
  have e : r + k - 1 = r + (k - 1) := by omega
  constructor
  · intro h1 i hi he
    exact h1 i hi (by show 97 + cl _ _ = _; rw [← e]; have : cl (r + k - 1) (c + i) = cl (r + k) (c + i) := he; omega)
  · intro h1 i hi he
    refine h1 i hi ?_
    show cl (r + k - 1) (c + i) = cl (r + k) (c + i)
    rw [e]; omega
theorem linesL_filter (cl : Nat → Nat → Int) (level : Bool) (lo from_ long : Nat) : ∀ n, linesL cl level lo from_ long n = ((List.range' 1 n).filter fun k => throughL cl level (lo + k) from_ long).map fun k => (level, lo + k) := by
  intro n
  induction n with
  | zero => rfl
  | succ n ih =>
    unfold linesL
    rw [ih, List.range'_concat, List.filter_append, List.map_append, Nat.one_mul, show lo + 1 + n = lo + (1 + n) by omega]
    congr 1
    rw [List.filter_cons]
    split <;> rfl
theorem cuts_grid (cl : Nat → Nat → Int) (r c ph pw : Nat) : cutsL cl r c ph pw = (cutsG (gridOf cl r c) ph pw).map fun x => (x.1, (if x.1 then r else c) + x.2) := by
  unfold cutsL cutsG
  rw [linesL_filter, linesL_filter, List.map_append, List.map_map, List.map_map]
  have e1 : (List.range' 1 (pw - 1)).filter (thruG (gridOf cl r c) ph) = (List.range' 1 (pw - 1)).filter fun k => throughL cl false (c + k) r ph := List.filter_congr fun k hk => thru_grid_up cl r c ph k (by have := List.mem_range'_1.1 hk; omega)
  have e2 : (List.range' 1 (ph - 1)).filter (thruG (fun i j => gridOf cl r c j i) pw) = (List.range' 1 (ph - 1)).filter fun k => throughL cl true (r + k) c pw := List.filter_congr fun k hk => thru_grid_lv cl r c pw k (by have := List.mem_range'_1.1 hk; omega)
  rw [e1, e2]
  rfl
end Go.Proofs.Ytbpppchkgjcahaa
