/- Plain: what stuckBy finds, and proofs about cuts. -/
import Derived.Test.YtdhnjecbdclmaaaKSTile
import Derived.Test.YtdhnjecbdclmaaaKSCutIsPM
namespace Go.Proofs.Ytdhnjecbdclmaaa
open Go.RowKit Go.Shelf Go.Proofs.YtdhnjecbdclmaaaW.PrintWords Go.Proofs.YtdhnjecbdclmaaaW.PrintMore
set_option linter.unusedVariables false
set_option linter.unusedSimpArgs false
def stuckT (boxes : List Box) (cut : Box → Bool) : Option Int → List Int → Box → Int → Bool
  | _, [], R, C => decide (C = areaB R) && !cut R
  | none, x :: xs, _, C => if 0 ≤ x ∧ x < boxes.length then stuckT boxes cut (some x) xs (bothB (boxAt boxes x) (boxAt boxes x)) (C + areaB (boxAt boxes x)) else false
  | some y, x :: xs, R, C => if (0 ≤ x ∧ x < boxes.length) ∧ y < x then stuckT boxes cut (some x) xs (bothB R (boxAt boxes x)) (C + areaB (boxAt boxes x)) else false
theorem stuckT_none (boxes : List Box) (cut : Box → Bool) (x : Int) (xs : List Int) (R : Box) (C : Int) : stuckT boxes cut none (x :: xs) R C = if 0 ≤ x ∧ x < boxes.length then stuckT boxes cut (some x) xs (bothB (boxAt boxes x) (boxAt boxes x)) (C + areaB (boxAt boxes x)) else false := rfl
theorem stuckT_more (boxes : List Box) (cut : Box → Bool) (y x : Int) (xs : List Int) (R : Box) (C : Int) : stuckT boxes cut (some y) (x :: xs) R C = if (0 ≤ x ∧ x < boxes.length) ∧ y < x then stuckT boxes cut (some x) xs (bothB R (boxAt boxes x)) (C + areaB (boxAt boxes x)) else false := rfl
def lets (b : ByteArray) (i d : Nat) : List Int := (List.range' i d).map fun (j : Nat) => bt b (j : Int) - 97
theorem stuckR_T (boxes : List Box) (cut : Box → Bool) (b : ByteArray) : ∀ d i R C, stuckR boxes cut b d i R C = stuckT boxes cut (if i = 0 then none else some (bt b ((i : Int) - 1) - 97)) (lets b i d) R C := by
  intro d
  induction d with
  | zero =>
    intro i R C
    show stuckR boxes cut b 0 i R C = stuckT boxes cut _ [] R C
    rw [stuckR]
    by_cases h : i = 0
    · rw [if_pos h]; rfl
    · rw [if_neg h]; rfl
  | succ d ih =>
    intro i R C
    have hl : lets b i (d + 1) = (bt b (i : Int) - 97) :: lets b (i + 1) d := by unfold lets; rw [List.range'_succ, List.map_cons]
    have e := ih (i + 1)
    rw [if_neg (by omega), show (((i + 1 : Nat) : Int) - 1) = (i : Int) by omega] at e
    rw [hl, stuckR]
    by_cases h : i = 0
    · subst h
      rw [show (if (0 : Nat) = 0 then (none : Option Int) else some (bt b (((0 : Nat) : Int) - 1) - 97)) = none from rfl, stuckT_none]
      by_cases hin : 0 ≤ bt b ((0 : Nat) : Int) - 97 ∧ bt b ((0 : Nat) : Int) - 97 < boxes.length
      · rw [if_pos hin, if_pos (by rw [decide_eq_true hin]; simp), if_pos rfl, e]
      · rw [if_neg hin, if_neg (by rw [decide_eq_false hin]; simp)]
    · rw [if_neg h]
      conv => rhs; rw [if_neg h, stuckT_more]
      by_cases hin : 0 ≤ bt b (i : Int) - 97 ∧ bt b (i : Int) - 97 < boxes.length
      · by_cases hlt : bt b (i : Int) ≤ bt b ((i : Int) - 1)
        · rw [if_neg (by rw [decide_eq_true hlt, decide_eq_true (show 0 < i by omega)]; simp), if_neg (by omega)]
        · rw [if_pos (by rw [decide_eq_true hin, decide_eq_false hlt]; simp), if_pos ⟨hin, by omega⟩, e]
      · rw [if_neg (by rw [decide_eq_false hin]; simp), if_neg (fun h => hin h.1)]
def foldB (boxes : List Box) (xs : List Int) (R : Box) : Box := xs.foldl (fun R x => bothB R (boxAt boxes x)) R
theorem stuckT_some (boxes : List Box) (cut : Box → Bool) : ∀ xs y R C, stuckT boxes cut (some y) xs R C = true ↔ (∀ x ∈ xs, 0 ≤ x ∧ x < boxes.length) ∧ (y :: xs).Pairwise (· < ·) ∧ C + (xs.map fun x => areaB (boxAt boxes x)).sum = areaB (foldB boxes xs R) ∧ cut (foldB boxes xs R) = false := by
  intro xs
  induction xs with
  | nil =>
    intro y R C
    rw [stuckT]
    unfold foldB
    simp
  | cons x xs ih =>
    intro y R C
    rw [stuckT_more]
    have hf : foldB boxes (x :: xs) R = foldB boxes xs (bothB R (boxAt boxes x)) := rfl
    rw [hf, List.map_cons, List.sum_cons]
    by_cases h : (0 ≤ x ∧ x < (boxes.length : Int)) ∧ y < x
    · rw [if_pos h, ih, ← Int.add_assoc]
      constructor
      · rintro ⟨h1, h2, h3⟩
        refine ⟨fun z hz => ?_, ?_, h3⟩
        · rcases List.mem_cons.1 hz with rfl | hz
          · exact h.1
          · exact h1 z hz
        · refine List.pairwise_cons.2 ⟨fun z hz => ?_, h2⟩
          rcases List.mem_cons.1 hz with rfl | hz
          · exact h.2
          · exact Int.lt_trans h.2 ((List.pairwise_cons.1 h2).1 z hz)
      · rintro ⟨h1, h2, h3⟩
        exact ⟨fun z hz => h1 z (List.mem_cons.2 (.inr hz)), (List.pairwise_cons.1 h2).2, h3⟩
    · rw [if_neg h]
      constructor
      · intro h0; cases h0
      · rintro ⟨h1, h2, _⟩
        exact absurd ⟨h1 x (List.mem_cons.2 (.inl rfl)), (List.pairwise_cons.1 h2).1 x (List.mem_cons.2 (.inl rfl))⟩ h
def In4 (A B : Box) : Prop := (B.1 ≤ A.1 ∧ A.1 + A.2.2.1 ≤ B.1 + B.2.2.1) ∧ B.2.1 ≤ A.2.1 ∧ A.2.1 + A.2.2.2 ≤ B.2.1 + B.2.2.2
theorem In4.refl (A : Box) : In4 A A := ⟨⟨Int.le_refl _, Int.le_refl _⟩, Int.le_refl _, Int.le_refl _⟩
theorem In4.trans {A B C : Box} (h : In4 A B) (k : In4 B C) : In4 A C := by unfold In4 at *; omega
theorem in4_left (A B : Box) : In4 A (bothB A B) := by unfold In4 bothB; dsimp only; omega
theorem in4_right (A B : Box) : In4 B (bothB A B) := by unfold In4 bothB; dsimp only; omega
theorem in4_least {A B C : Box} (h : In4 A C) (k : In4 B C) : In4 (bothB A B) C := by unfold In4 bothB at *; dsimp only at *; omega
theorem in4_iff {A B : Box} : bothB B A = B ↔ In4 A B := by
  obtain ⟨b1, b2, b3, b4⟩ := B
  unfold In4 bothB
  simp only [Prod.mk.injEq]
  omega
theorem in4_anti {A B : Box} (h : In4 A B) (k : In4 B A) : A = B := by
  obtain ⟨a1, a2, a3, a4⟩ := A
  obtain ⟨b1, b2, b3, b4⟩ := B
  unfold In4 at h k
  simp only [Prod.mk.injEq]
  dsimp only at h k
  omega
theorem foldB_in (boxes : List Box) : ∀ xs R, In4 R (foldB boxes xs R) ∧ ∀ x ∈ xs, In4 (boxAt boxes x) (foldB boxes xs R) := by
  intro xs
  induction xs with
  | nil => intro R; exact ⟨In4.refl R, fun x hx => absurd hx (List.not_mem_nil)⟩
  | cons y xs ih =>
    intro R
    obtain ⟨h1, h2⟩ := ih (bothB R (boxAt boxes y))
    refine ⟨(in4_left _ _).trans h1, fun x hx => ?_⟩
    rcases List.mem_cons.1 hx with rfl | hx
    · exact (in4_right _ _).trans h1
    · exact h2 x hx
theorem foldB_least (boxes : List Box) {W : Box} : ∀ xs R, In4 R W → (∀ x ∈ xs, In4 (boxAt boxes x) W) → In4 (foldB boxes xs R) W := by
  intro xs
  induction xs with
  | nil => intro R h _; exact h
  | cons y xs ih => intro R h hx; exact ih _ (in4_least h (hx y (List.mem_cons.2 (.inl rfl)))) (fun x hxx => hx x (List.mem_cons.2 (.inr hxx)))
theorem foldB_fl {boxes : List Box} {h wd : Nat} (hb : ∀ B ∈ boxes, BoxFl h wd B) : ∀ xs R, BoxFl h wd R → (∀ x ∈ xs, 0 ≤ x ∧ x < (boxes.length : Int)) → BoxFl h wd (foldB boxes xs R) := by
  intro xs
  induction xs with
  | nil => intro R hR _; exact hR
  | cons y xs ih =>
    intro R hR hx
    refine ih _ (bothFl hR ?_) (fun x hxx => hx x (List.mem_cons.2 (.inr hxx)))
    obtain ⟨h1, h2⟩ := hx y (List.mem_cons.2 (.inl rfl))
    have hl : y.toNat < boxes.length := by omega
    unfold boxAt
    rw [List.getD_eq_getElem?_getD, List.getElem?_eq_getElem hl]
    exact hb _ (List.getElem_mem hl)
theorem boxAt_fl {cl : Nat → Nat → Int} {boxes : List Box} {h wd : Nat} (f : Flat cl boxes h wd) {x : Int} (hx : 0 ≤ x ∧ x < (boxes.length : Int)) : ∃ k, ∃ hk : k < boxes.length, x = (k : Int) ∧ boxAt boxes x = boxes[k] ∧ BoxFl h wd boxes[k] := by
  have hl : x.toNat < boxes.length := by omega
  refine ⟨x.toNat, hl, by omega, ?_, f.fl _ (List.getElem_mem hl)⟩
  unfold boxAt
  rw [List.getD_eq_getElem?_getD, List.getElem?_eq_getElem hl]; rfl
theorem both_same {h wd : Nat} {B : Box} (hB : BoxFl h wd B) : bothB B B = B := in4_iff.2 (In4.refl B)
theorem stuckBy_sound {cl : Nat → Nat → Int} {boxes : List Box} {h wd : Nat} (f : Flat cl boxes h wd) {b : ByteArray} (hb : stuckByP cl boxes b = true) :
    ∃ r c ph pw, Whole cl h wd r c ph pw ∧ 2 ≤ (listL boxes (natB r c ph pw) boxes.length).length ∧ (cutsL cl r c ph pw).head? = none := by
  unfold stuckByP at hb
  by_cases h2 : b.size < 2
  · rw [if_pos h2] at hb; cases hb
  · rw [if_neg h2, stuckR_T, if_pos rfl] at hb
    obtain ⟨d, hd⟩ : ∃ d, b.size = d + 1 + 1 := ⟨b.size - 2, by omega⟩
    have hl : lets b 0 b.size = (bt b ((0 : Nat) : Int) - 97) :: (bt b ((1 : Nat) : Int) - 97) :: lets b 2 d := by
      rw [hd]; unfold lets; rw [List.range'_succ, List.range'_succ, List.map_cons, List.map_cons]
    rw [hl] at hb
    obtain ⟨x, hx⟩ : ∃ x, bt b ((0 : Nat) : Int) - 97 = x := ⟨_, rfl⟩
    obtain ⟨y, hy⟩ : ∃ y, bt b ((1 : Nat) : Int) - 97 = y := ⟨_, rfl⟩
    obtain ⟨xs, hxs⟩ : ∃ xs, y :: lets b 2 d = xs := ⟨_, rfl⟩
    rw [hx, hy, hxs, stuckT_none] at hb
    split at hb
    · rename_i hin
      obtain ⟨k, hk, hxk, hbx, hfl⟩ := boxAt_fl f hin
      rw [hbx, both_same hfl] at hb
      obtain ⟨h1, h3, h4, h5⟩ := (stuckT_some boxes _ xs x boxes[k] _).1 hb
      have hUF := foldB_fl f.fl xs boxes[k] hfl h1
      obtain ⟨i1, i2⟩ := foldB_in boxes xs boxes[k]
      obtain ⟨U, hU⟩ : ∃ U, foldB boxes xs boxes[k] = U := ⟨_, rfl⟩
      rw [hU] at hUF i1 i2 h4 h5
      obtain ⟨r, c, ph, pw, rfl, p1, p2, p3, p4⟩ := hUF
      have hmem : ∀ z ∈ x :: xs, ∃ k, ∃ hk : k < boxes.length, z = (k : Int) ∧ bothB (natB r c ph pw) boxes[k] = natB r c ph pw := by
        intro z hz
        rcases List.mem_cons.1 hz with rfl | hz
        · exact ⟨k, hk, hxk, in4_iff.2 i1⟩
        · obtain ⟨m, hm, e1, e2, _⟩ := boxAt_fl f (h1 z hz)
          have := i2 z hz
          rw [e2] at this
          exact ⟨m, hm, e1, in4_iff.2 this⟩
      have hnd : (x :: xs).Nodup := h3.imp (fun h => Int.ne_of_lt h)
      have hwh := tile_whole f ⟨p1, p2⟩ p3 p4 (x :: xs) hnd hmem (by
        rw [List.map_cons, List.sum_cons, hbx]
        omega)
      refine ⟨r, c, ph, pw, hwh, ?_, ?_⟩
      · have hin2 : ∀ z ∈ x :: xs, z ∈ listL boxes (natB r c ph pw) boxes.length := fun z hz => by
          obtain ⟨m, hm, e, hbm⟩ := hmem z hz
          obtain ⟨i, j, g1, g2⟩ := (room_within f hwh m hm).1 hbm
          exact (listL_iff f hwh z).2 ⟨i, j, g1, by rw [g2, e]⟩
        have m1 := hin2 x (List.mem_cons.2 (.inl rfl))
        have m2 := hin2 y (List.mem_cons.2 (.inr (by rw [← hxs]; exact List.mem_cons.2 (.inl rfl))))
        have hne : x < y := (List.pairwise_cons.1 h3).1 y (by rw [← hxs]; exact List.mem_cons.2 (.inl rfl))
        match hL : listL boxes (natB r c ph pw) boxes.length, m1, m2 with
        | [], m1, _ => exact absurd m1 (List.not_mem_nil)
        | [a], m1, m2 =>
          have e1 := List.mem_singleton.1 m1
          have e2 := List.mem_singleton.1 m2
          omega
        | a :: a' :: l, _, _ => simp
      · unfold cutB natB at h5
        simp only [Int.toNat_natCast] at h5
        cases ho : (cutsL cl r c ph pw).head? with
        | none => rfl
        | some o => rw [ho] at h5; cases h5
    · cases hb
theorem stuck_facts {cl : Nat → Nat → Int} {boxes : List Box} : ∀ (n r c ph pw : Nat) (R : Rc), stuckL cl boxes n (r, c, ph, pw) = some R → (listL boxes (boxR R) boxes.length).length ≠ 1 ∧ (cutsL cl R.1 R.2.1 R.2.2.1 R.2.2.2).head? = none := by
  intro n
  induction n with
  | zero => intro r c ph pw R h; cases h
  | succ n ih =>
    intro r c ph pw R h
    unfold stuckL at h
    split at h
    · cases h
    · rename_i h1
      split at h
      · rename_i hx
        obtain rfl := Option.some.inj h
        exact ⟨h1, hx⟩
      · rename_i x hx
        split at h
        · rename_i R1 h2
          obtain rfl := Option.some.inj h
          exact ih _ _ _ _ R1 h2
        · exact ih _ _ _ _ R h
theorem lets_row (L : List Int) (hL : ∀ k ∈ L, (0 : Int) ≤ k ∧ k ≤ 100) : lets (rowText L) 0 (rowText L).size = L := by
  have hs : (rowText L).size = L.length := by unfold rowText rowBytes; show (List.map letOf L).toArray.size = _; simp
  unfold lets
  rw [hs]
  apply List.ext_getElem
  · simp
  · intro i h1 h2
    rw [List.getElem_map, List.getElem_range', rowText_bt L hL _ (by omega)]
    simp
    omega
theorem stuckBy_full {cl : Nat → Nat → Int} {boxes : List Box} {h wd : Nat} (f : Flat cl boxes h wd) {r c ph pw : Nat} (hw : Whole cl h wd r c ph pw) (h1 : (listL boxes (natB r c ph pw) boxes.length).length ≠ 1) (hno : (cutsL cl r c ph pw).head? = none) :
    stuckByP cl boxes (rowText (listL boxes (natB r c ph pw) boxes.length)) = true := by
  have hfew := f.few
  have hpos := list_pos f hw
  have hsum := whole_sum f hw
  obtain ⟨hsrt, _⟩ := listL_sorted boxes (natB r c ph pw) boxes.length
  have hin : ∀ x ∈ listL boxes (natB r c ph pw) boxes.length, (0 ≤ x ∧ x < (boxes.length : Int)) ∧ In4 (boxAt boxes x) (natB r c ph pw) := fun x hx => by
    obtain ⟨m, e, hm, hb⟩ := listL_mem hx
    refine ⟨by omega, ?_⟩
    unfold boxAt
    rw [e, Int.toNat_natCast]
    exact in4_iff.1 hb
  have hcell := listL_iff f hw
  obtain ⟨L, hL⟩ : ∃ L, listL boxes (natB r c ph pw) boxes.length = L := ⟨_, rfl⟩
  rw [hL] at h1 hpos hsum hsrt hin hcell ⊢
  have hs : (rowText L).size = L.length := by unfold rowText rowBytes; show (List.map letOf L).toArray.size = _; simp
  unfold stuckByP
  rw [if_neg (by omega), stuckR_T, if_pos rfl, lets_row L (fun k hk => by have := (hin k hk).1; omega)]
  match L, hpos with
  | x :: xs, _ =>
    have hx := (hin x (List.mem_cons.2 (.inl rfl))).1
    obtain ⟨k, hk, hxk, hbx, hfl⟩ := boxAt_fl f hx
    rw [stuckT_none, if_pos hx, hbx, both_same hfl]
    obtain ⟨i1, i2⟩ := foldB_in boxes xs boxes[k]
    have hU : foldB boxes xs boxes[k] = natB r c ph pw := by
      refine in4_anti (foldB_least boxes xs boxes[k] (by have := (hin x (List.mem_cons.2 (.inl rfl))).2; rwa [hbx] at this) (fun y hy => (hin y (List.mem_cons.2 (.inr hy))).2)) ?_
      have hcov : ∀ i j, InR r c ph pw i j → ∃ B, In4 B (foldB boxes xs boxes[k]) ∧ (B.1 ≤ (i : Int) ∧ (i : Int) < B.1 + B.2.2.1) ∧ B.2.1 ≤ (j : Int) ∧ (j : Int) < B.2.1 + B.2.2.2 := by
        intro i j hij
        have hm := (hcell (cl i j)).2 ⟨i, j, hij, rfl⟩
        have hr := hw.row
        have hc := hw.col
        have hB : In4 (boxAt boxes (cl i j)) (foldB boxes xs boxes[k]) := by
          rcases List.mem_cons.1 hm with e | hm
          · rw [e, hbx]; exact i1
          · exact i2 _ hm
        refine ⟨_, hB, ?_⟩
        obtain ⟨m, hm9, e1, e2, _⟩ := boxAt_fl f (hin _ hm).1
        obtain ⟨a, b, d, e, hb, q1, q2, q3, q4, hcl⟩ := f.box m hm9
        have := (hcl i j (by have := hij.1; omega) (by have := hij.2; omega)).1 e1
        rw [e2, hb]
        unfold natB
        dsimp only
        omega
      have hsome := hw.some
      obtain ⟨B1, b1, b2, b3⟩ := hcov r c ⟨⟨Nat.le_refl _, by omega⟩, Nat.le_refl _, by omega⟩
      obtain ⟨B2, d1, d2, d3⟩ := hcov (r + ph - 1) (c + pw - 1) ⟨⟨by omega, by omega⟩, by omega, by omega⟩
      unfold In4 natB at *
      dsimp only at *
      omega
    refine (stuckT_some boxes _ xs x boxes[k] _).2 ⟨fun y hy => (hin y (List.mem_cons.2 (.inr hy))).1, hsrt, ?_, ?_⟩
    · rw [hU, ← hsum, List.map_cons, List.sum_cons, hbx]
      omega
    · rw [hU]
      unfold cutB natB
      simp only [Int.toNat_natCast]
      rw [hno]; rfl
theorem pos_sub {cl : Nat → Nat → Int} {boxes : List Box} {h wd : Nat} (f : Flat cl boxes h wd) : ∀ (n r c ph pw : Nat), ph + pw < n → Whole cl h wd r c ph pw → Pos cl boxes r c ph pw → ∀ r' c' ph' pw', Whole cl h wd r' c' ph' pw' → r ≤ r' → r' + ph' ≤ r + ph → c ≤ c' → c' + pw' ≤ c + pw → Pos cl boxes r' c' ph' pw' := by
  intro n
  induction n with
  | zero => intro r c ph pw h0; omega
  | succ n ih =>
    intro r c ph pw hlt hw hp r' c' ph' pw' hw' q1 q2 q3 q4
    have hs' := hw'.some
    by_cases h1' : (listL boxes (natB r' c' ph' pw') boxes.length).length = 1
    · unfold Pos waysN; rw [if_pos h1']; exact Nat.one_pos
    · by_cases h1 : (listL boxes (natB r c ph pw) boxes.length).length = 1
      · exfalso
        refine h1' ?_
        obtain ⟨a, ha⟩ := List.length_eq_one_iff.1 h1
        have e : ∀ x ∈ listL boxes (natB r' c' ph' pw') boxes.length, x = a := fun x hx => by
          obtain ⟨i, j, g1, g2⟩ := (listL_iff f hw' x).1 hx
          have : x ∈ listL boxes (natB r c ph pw) boxes.length := (listL_iff f hw x).2 ⟨i, j, ⟨⟨by have := g1.1; omega, by have := g1.1; omega⟩, by have := g1.2; omega, by have := g1.2; omega⟩, g2⟩
          rw [ha] at this
          exact List.mem_singleton.1 this
        have hs := (listL_sorted boxes (natB r' c' ph' pw') boxes.length).1
        have hp' := list_pos f hw'
        match hL : listL boxes (natB r' c' ph' pw') boxes.length, e, hs, hp' with
        | [_], _, _, _ => rfl
        | y :: z :: l, e, hs, _ =>
          have e1 := e y (List.mem_cons.2 (.inl rfl))
          have e2 := e z (List.mem_cons.2 (.inr (List.mem_cons.2 (.inl rfl))))
          have := (List.pairwise_cons.1 hs).1 z (List.mem_cons.2 (.inl rfl))
          omega
      · obtain ⟨x, hx, p1, p2⟩ := (pos_iff h1).1 hp
        obtain ⟨w1, w2⟩ := whole_parts f hw hx
        have i1 := (one_in hx).less
        have i2 := (two_in hx).less
        have hc := cutsL_in hx
        obtain ⟨b, k⟩ := x
        cases b with
        | true =>
          simp only [if_true] at hc
          by_cases a1 : r' + ph' ≤ k
          · exact ih _ _ _ _ (by omega) w1 p1 r' c' ph' pw' hw' q1 (by show r' + ph' ≤ r + (k - r); omega) q3 q4
          · by_cases a2 : k ≤ r'
            · exact ih _ _ _ _ (by omega) w2 p2 r' c' ph' pw' hw' a2 (by show r' + ph' ≤ k + (ph - (k - r)); omega) q3 q4
            · have hk : (true, k) ∈ cutsL cl r' c' ph' pw' := (cuts_lv _ _ _ _ _ _).2 ⟨by omega, by omega, thru_sub hc.2.2 q3 q4⟩
              obtain ⟨v1, v2⟩ := whole_parts f hw' hk
              refine pos_lv f hw' hk ?_ ?_
              · exact ih _ _ _ _ (by omega) w1 p1 _ _ _ _ v1 q1 (by show r' + (k - r') ≤ r + (k - r); omega) q3 q4
              · exact ih _ _ _ _ (by omega) w2 p2 _ _ _ _ v2 (Nat.le_refl _) (by show k + (ph' - (k - r')) ≤ k + (ph - (k - r)); omega) q3 q4
        | false =>
          simp only [Bool.false_eq_true, if_false] at hc
          by_cases a1 : c' + pw' ≤ k
          · exact ih _ _ _ _ (by omega) w1 p1 r' c' ph' pw' hw' q1 q2 q3 (by show c' + pw' ≤ c + (k - c); omega)
          · by_cases a2 : k ≤ c'
            · exact ih _ _ _ _ (by omega) w2 p2 r' c' ph' pw' hw' q1 q2 a2 (by show c' + pw' ≤ k + (pw - (k - c)); omega)
            · have hk : (false, k) ∈ cutsL cl r' c' ph' pw' := (cuts_up _ _ _ _ _ _).2 ⟨by omega, by omega, thru_sub hc.2.2 q1 q2⟩
              obtain ⟨v1, v2⟩ := whole_parts f hw' hk
              refine pos_up f hw' hk ?_ ?_
              · exact ih _ _ _ _ (by omega) w1 p1 _ _ _ _ v1 q1 q2 q3 (by show c' + (k - c') ≤ c + (k - c); omega)
              · exact ih _ _ _ _ (by omega) w2 p2 _ _ _ _ v2 q1 q2 (Nat.le_refl _) (by show k + (pw' - (k - c')) ≤ k + (pw - (k - c)); omega)
theorem stuckBy_not {p : List ByteArray} (h : planG p = true) {b : ByteArray} (hb : stuckByP (clP p) (boxesP p) b = true) : (cutTextO p).isSome = false := by
  have f := planFlat h
  obtain ⟨r, c, ph, pw, hw, h2, hno⟩ := stuckBy_sound f hb
  cases ho : (cutTextO p).isSome with
  | false => rfl
  | true =>
    exfalso
    have hhi := f.high
    have hwi := f.wide
    have hp := (text_pos f 13 0 0 p.length (wdP p) (by omega) f.whole).1 ho
    have hs := pos_sub f (p.length + wdP p + 1) 0 0 p.length (wdP p) (by omega) f.whole hp r c ph pw hw (Nat.zero_le _) (by have := hw.row; omega) (Nat.zero_le _) (by have := hw.col; omega)
    obtain ⟨x, hx, _⟩ := (pos_iff (by omega)).1 hs
    rw [List.head?_eq_none_iff.1 hno] at hx
    exact absurd hx (List.not_mem_nil)
theorem stuck_proof {p : List ByteArray} (h : planG p = true) (ho : cutTextO p = none) : stuckByP (clP p) (boxesP p) (rowText (stuckRooms p)) = true := by
  have f := planFlat h
  have hhi := f.high
  have hwi := f.wide
  have e := stuck_text (clP p) (boxesP p) 13 0 0 p.length (wdP p) (by omega)
  change (cutTextO p).isSome = !(stuckO p).isSome at e
  rw [ho] at e
  obtain ⟨R, hR⟩ : ∃ R, stuckO p = some R := by
    cases hq : stuckO p with
    | none => rw [hq] at e; cases e
    | some R => exact ⟨R, rfl⟩
  have hw := stuck_whole f 13 0 0 p.length (wdP p) f.whole R hR
  obtain ⟨f1, f2⟩ := stuck_facts 13 0 0 p.length (wdP p) R hR
  have := stuckBy_full f hw f1 f2
  unfold stuckRooms
  rw [hR]
  exact this
end Go.Proofs.Ytdhnjecbdclmaaa
