/- The longest way, in plain Lean: it is the same in the flipped plan, less than the rooms, and 0 for one room alone. -/
import Derived.Test.YtbpppchkgjcahaaKCSpecNearWM
import Derived.Test.YtbpppchkgjcahaaKCRemade
namespace Go.Proofs.Ytbpppchkgjcahaa
open Go.RowKit Go.Shelf Go.Proofs.YtbpppchkgjcahaaW.PrintWords Go.Proofs.YtbpppchkgjcahaaW.PrintMore
set_option linter.unusedVariables false
set_option linter.unusedSimpArgs false
def SameR (p q : List ByteArray) (k m : Nat) : Prop := ∃ i j, i < p.length ∧ j < wdP p ∧ clP p i j = (k : Int) ∧ clP q i (wdP p - 1 - j) = (m : Int)
structure FlipQ (p q : List ByteArray) : Prop where
  plan : planG p = true
  qlan : planG q = true
  high : q.length = p.length
  wide : wdP q = wdP p
  same : ∀ i j i' j', i < p.length → j < wdP p → i' < p.length → j' < wdP p → (clP q i (wdP p - 1 - j) = clP q i' (wdP p - 1 - j') ↔ clP p i j = clP p i' j')
theorem FlipQ.of {p q : List ByteArray} (hp : planG p = true) (h : Planned (fun r c => clP p r (wdP p - 1 - c)) p.length (wdP p) q) : FlipQ p q :=
  ⟨hp, h.plan, h.high, h.wide, fun i j i' j' h1 h2 h3 h4 => by
    rw [h.same i (wdP p - 1 - j) i' (wdP p - 1 - j') h1 (by omega) h3 (by omega)]
    rw [show wdP p - 1 - (wdP p - 1 - j) = j by omega, show wdP p - 1 - (wdP p - 1 - j') = j' by omega]⟩
section
variable {p q : List ByteArray}
theorem has_cell (hp : planG p = true) {k : Nat} (hk : k < roomN p) : ∃ i j, i < p.length ∧ j < wdP p ∧ clP p i j = (k : Int) := by
  obtain ⟨a, b, c, d, h1, h2, h3, h4, h5, h6⟩ := (planFlat hp).box k hk
  exact ⟨a, b, by omega, by omega, (h6 a b (by omega) (by omega)).2 ⟨⟨by omega, by omega⟩, ⟨by omega, by omega⟩⟩⟩
theorem SameR.lt (h : FlipQ p q) {k m : Nat} (hs : SameR p q k m) : k < roomN p ∧ m < roomN q := by
  obtain ⟨i, j, h1, h2, h3, h4⟩ := hs
  obtain ⟨k', hk, e⟩ := (planFlat h.plan).num i j h1 h2
  obtain ⟨m', hm, e'⟩ := (planFlat h.qlan).num i (wdP p - 1 - j) (by rw [h.high]; exact h1) (by rw [h.wide]; omega)
  rw [h3] at e
  rw [h4] at e'
  have e1 : k = k' := Int.ofNat.inj e
  have e2 : m = m' := Int.ofNat.inj e'
  subst e1 e2
  exact ⟨hk, hm⟩
theorem SameR.to (h : FlipQ p q) {k : Nat} (hk : k < roomN p) : ∃ m, SameR p q k m := by
  obtain ⟨i, j, h1, h2, h3⟩ := has_cell h.plan hk
  obtain ⟨m', hm, e'⟩ := (planFlat h.qlan).num i (wdP p - 1 - j) (by rw [h.high]; exact h1) (by rw [h.wide]; omega)
  exact ⟨m', i, j, h1, h2, h3, e'⟩
theorem SameR.from (h : FlipQ p q) {m : Nat} (hm : m < roomN q) : ∃ k, SameR p q k m := by
  obtain ⟨i, j, h1, h2, h3⟩ := has_cell h.qlan hm
  rw [h.high] at h1
  rw [h.wide] at h2
  obtain ⟨k', hk, e⟩ := (planFlat h.plan).num i (wdP p - 1 - j) h1 (by omega)
  exact ⟨k', i, wdP p - 1 - j, h1, by omega, e, by rw [show wdP p - 1 - (wdP p - 1 - j) = j by omega]; exact h3⟩
theorem SameR.cell (h : FlipQ p q) {k m : Nat} (hs : SameR p q k m) {i j : Nat} (hi : i < p.length) (hj : j < wdP p) : clP p i j = (k : Int) ↔ clP q i (wdP p - 1 - j) = (m : Int) := by
  obtain ⟨i', j', h1, h2, h3, h4⟩ := hs
  rw [← h3, ← h4]
  exact (h.same i j i' j' hi hj h1 h2).symm
theorem SameR.inj (h : FlipQ p q) {k m k' m' : Nat} (hs : SameR p q k m) (hs' : SameR p q k' m') : k = k' ↔ m = m' := by
  obtain ⟨i, j, h1, h2, h3, h4⟩ := hs'
  have := hs.cell h h1 h2
  rw [h3, h4] at this
  constructor
  · intro e; subst e; exact (Int.ofNat.inj (this.1 rfl)).symm
  · intro e; subst e; exact (Int.ofNat.inj (this.2 rfl)).symm
theorem SameR.near (h : FlipQ p q) {a b a' b' : Nat} (ha : SameR p q a a') (hb : SameR p q b b') : nbP p a b = nbP q a' b' := by
  have hwd := (planFlat h.plan).wide
  have one : nbP p a b = true → nbP q a' b' = true := fun hn => by
    obtain ⟨hne, hc⟩ := nbB_iff.1 hn
    refine nbB_iff.2 ⟨fun e => hne ((ha.inj h hb).2 e), ?_⟩
    rw [h.high, h.wide]
    rcases hc with ⟨i, j, h1, h2, h3⟩ | ⟨i, j, h1, h2, h3⟩
    · refine .inl ⟨i, wdP p - 1 - (j + 1), h1, by omega, ?_⟩
      rw [show wdP p - 1 - (j + 1) + 1 = wdP p - 1 - j by omega]
      rcases h3 with ⟨e1, e2⟩ | ⟨e1, e2⟩
      · exact .inr ⟨(hb.cell h h1 h2).1 e2, (ha.cell h h1 (by omega)).1 e1⟩
      · exact .inl ⟨(ha.cell h h1 h2).1 e2, (hb.cell h h1 (by omega)).1 e1⟩
    · refine .inr ⟨i, wdP p - 1 - j, h1, by omega, ?_⟩
      rcases h3 with ⟨e1, e2⟩ | ⟨e1, e2⟩
      · exact .inl ⟨(ha.cell h (by omega) h2).1 e1, (hb.cell h h1 h2).1 e2⟩
      · exact .inr ⟨(hb.cell h (by omega) h2).1 e1, (ha.cell h h1 h2).1 e2⟩
  have two : nbP q a' b' = true → nbP p a b = true := fun hn => by
    obtain ⟨hne, hc⟩ := nbB_iff.1 hn
    refine nbB_iff.2 ⟨fun e => hne ((ha.inj h hb).1 e), ?_⟩
    rw [h.high, h.wide] at hc
    have back : ∀ {k m : Nat} (hs : SameR p q k m) {i j : Nat}, i < p.length → j < wdP p → clP q i j = (m : Int) → clP p i (wdP p - 1 - j) = (k : Int) := fun {k m} hs {i j} hi hj e => (hs.cell h hi (by omega)).2 (by rw [show wdP p - 1 - (wdP p - 1 - j) = j by omega]; exact e)
    rcases hc with ⟨i, j, h1, h2, h3⟩ | ⟨i, j, h1, h2, h3⟩
    · refine .inl ⟨i, wdP p - 1 - (j + 1), h1, by omega, ?_⟩
      rw [show wdP p - 1 - (j + 1) + 1 = wdP p - 1 - j by omega]
      rcases h3 with ⟨e1, e2⟩ | ⟨e1, e2⟩
      · exact .inr ⟨back hb h1 h2 e2, back ha h1 (by omega) e1⟩
      · exact .inl ⟨back ha h1 h2 e2, back hb h1 (by omega) e1⟩
    · refine .inr ⟨i, wdP p - 1 - j, h1, by omega, ?_⟩
      rcases h3 with ⟨e1, e2⟩ | ⟨e1, e2⟩
      · exact .inl ⟨back ha (by omega) h2 e1, back hb h1 h2 e2⟩
      · exact .inr ⟨back hb (by omega) h2 e1, back ha h1 h2 e2⟩
  rw [Bool.eq_iff_iff]
  exact ⟨one, two⟩
theorem way_to (h : FlipQ p q) : ∀ (k : Nat) {a a' x x' : Nat}, SameR p q a a' → SameR p q x x' → Way (nbP p) (roomN p) a k x → Way (nbP q) (roomN q) a' k x' := by
  intro k
  induction k with
  | zero => intro a a' x x' ha hx hw; exact (hx.inj h ha).1 hw
  | succ k ih =>
    rintro a a' x x' ha hx ⟨y, h1, h2, h3⟩
    obtain ⟨y', hy⟩ := SameR.to h h1
    exact ⟨y', (hy.lt h).2, by rw [← hy.near h hx]; exact h2, ih ha hy h3⟩
theorem way_from (h : FlipQ p q) : ∀ (k : Nat) {a a' x x' : Nat}, SameR p q a a' → SameR p q x x' → Way (nbP q) (roomN q) a' k x' → Way (nbP p) (roomN p) a k x := by
  intro k
  induction k with
  | zero => intro a a' x x' ha hx hw; exact (hx.inj h ha).2 hw
  | succ k ih =>
    rintro a a' x x' ha hx ⟨y', h1, h2, h3⟩
    obtain ⟨y, hy⟩ := SameR.from h h1
    exact ⟨y, (hy.lt h).1, by rw [hy.near h hx]; exact h2, ih ha hy h3⟩
theorem dist_same (h : FlipQ p q) {a a' b b' : Nat} (ha : SameR p q a a') (hb : SameR p q b b') : dAt (stepsL (nbP p) (roomN p) a) b = dAt (stepsL (nbP q) (roomN q) a') b' := by
  have la := ha.lt h
  have lb := hb.lt h
  have d1 := steps_dist (nb := nbP p) la.1
  have d2 := steps_dist (nb := nbP q) la.2
  have l1 := d1.low b lb.1
  have l2 := d2.low b' lb.2
  have o1 : 0 ≤ dAt (stepsL (nbP p) (roomN p) a) b → 0 ≤ dAt (stepsL (nbP q) (roomN q) a') b' ∧ dAt (stepsL (nbP q) (roomN q) a') b' ≤ dAt (stepsL (nbP p) (roomN p) a) b := fun h0 => by
    obtain ⟨r1, r2⟩ := d2.least la.2 _ b' lb.2 (way_to h _ ha hb (d1.way _ b lb.1 (nat_of h0)))
    exact ⟨r1, by omega⟩
  have o2 : 0 ≤ dAt (stepsL (nbP q) (roomN q) a') b' → 0 ≤ dAt (stepsL (nbP p) (roomN p) a) b ∧ dAt (stepsL (nbP p) (roomN p) a) b ≤ dAt (stepsL (nbP q) (roomN q) a') b' := fun h0 => by
    obtain ⟨r1, r2⟩ := d1.least la.1 _ b lb.1 (way_from h _ ha hb (d2.way _ b' lb.2 (nat_of h0)))
    exact ⟨r1, by omega⟩
  by_cases c : 0 ≤ dAt (stepsL (nbP p) (roomN p) a) b
  · obtain ⟨c1, c2⟩ := o1 c
    obtain ⟨c3, c4⟩ := o2 c1
    omega
  · by_cases c' : 0 ≤ dAt (stepsL (nbP q) (roomN q) a') b'
    · exact absurd (o2 c').1 c
    · omega
end
theorem maxOf_ge {L : List Int} {j : Nat} (hj : j < L.length) : dAt L j ≤ Lib.maxOf L := by
  have key : ∀ (L : List Int) (m : Int) (j : Nat), j < L.length → L.getD j 0 ≤ L.foldl max m := by
    intro L
    induction L with
    | nil => intro m j h; exact absurd h (by simp)
    | cons x L ih =>
      intro m j h
      rw [List.foldl_cons]
      cases j with
      | zero =>
        have := fold_max (max m x) L
        show x ≤ _
        omega
      | succ j => exact ih (max m x) j (by simpa using h)
  exact key L _ j hj
theorem maxOf_ex {L : List Int} (h : L ≠ []) : ∃ j, j < L.length ∧ Lib.maxOf L = dAt L j := by
  have key : ∀ (L : List Int) (m : Int), L.foldl max m = m ∨ ∃ j, j < L.length ∧ L.foldl max m = dAt L j := by
    intro L
    induction L with
    | nil => intro m; exact .inl rfl
    | cons x L ih =>
      intro m
      rw [List.foldl_cons]
      rcases ih (max m x) with e | ⟨j, hj, e⟩
      · rw [e]
        by_cases c : m ≤ x
        · exact .inr ⟨0, by simp, by show max m x = x; omega⟩
        · exact .inl (by omega)
      · exact .inr ⟨j + 1, by simpa using hj, e⟩
  cases L with
  | nil => exact absurd rfl h
  | cons x L =>
    rcases key (x :: L) x with e | ⟨j, hj, e⟩
    · exact ⟨0, by simp, e⟩
    · exact ⟨j, hj, e⟩
theorem farTo_ge (nb : Nat → Nat → Bool) (n : Nat) : ∀ k, k ≤ n → 0 ≤ farTo nb n k ∧ ∀ a b, a < k → b < n → dAt (stepsL nb n a) b ≤ farTo nb n k := by
  intro k
  induction k with
  | zero => intro _; exact ⟨Int.le_refl _, fun a b h => absurd h (by omega)⟩
  | succ k ih =>
    intro hk
    obtain ⟨h1, h2⟩ := ih (by omega)
    have e : farTo nb n (k + 1) = max (farTo nb n k) (Lib.maxOf (stepsL nb n k)) := rfl
    rw [e]
    refine ⟨by omega, fun a b ha hb => ?_⟩
    by_cases c : a = k
    · subst c
      have := maxOf_ge (L := stepsL nb n a) (j := b) (by rw [steps_len (show a < n by omega)]; exact hb)
      omega
    · have := h2 a b (by omega) hb
      omega
theorem farTo_ex (nb : Nat → Nat → Bool) (n : Nat) : ∀ k, k ≤ n → farTo nb n k = 0 ∨ ∃ a b, a < k ∧ b < n ∧ farTo nb n k = dAt (stepsL nb n a) b := by
  intro k
  induction k with
  | zero => intro _; exact .inl rfl
  | succ k ih =>
    intro hk
    have e : farTo nb n (k + 1) = max (farTo nb n k) (Lib.maxOf (stepsL nb n k)) := rfl
    have hl := steps_len (nb := nb) (show k < n by omega)
    obtain ⟨j, hj, ej⟩ := maxOf_ex (L := stepsL nb n k) (by intro h; rw [h] at hl; simp at hl; omega)
    rw [e]
    by_cases c : farTo nb n k ≤ Lib.maxOf (stepsL nb n k)
    · exact .inr ⟨k, j, by omega, by omega, by rw [← ej]; omega⟩
    · rcases ih (by omega) with h | ⟨a, b, h1, h2, h3⟩
      · exact .inl (by omega)
      · exact .inr ⟨a, b, by omega, h2, by omega⟩
theorem far_same {p q : List ByteArray} (h : FlipQ p q) : farTo (nbP p) (roomN p) (roomN p) = farTo (nbP q) (roomN q) (roomN q) := by
  obtain ⟨p0, p1⟩ := farTo_ge (nbP p) (roomN p) (roomN p) (Nat.le_refl _)
  obtain ⟨q0, q1⟩ := farTo_ge (nbP q) (roomN q) (roomN q) (Nat.le_refl _)
  have le1 : farTo (nbP p) (roomN p) (roomN p) ≤ farTo (nbP q) (roomN q) (roomN q) := by
    rcases farTo_ex (nbP p) (roomN p) (roomN p) (Nat.le_refl _) with e | ⟨a, b, h1, h2, e⟩
    · omega
    · obtain ⟨a', ha⟩ := SameR.to h h1
      obtain ⟨b', hb⟩ := SameR.to h h2
      rw [e, dist_same h ha hb]
      exact q1 a' b' (ha.lt h).2 (hb.lt h).2
  have le2 : farTo (nbP q) (roomN q) (roomN q) ≤ farTo (nbP p) (roomN p) (roomN p) := by
    rcases farTo_ex (nbP q) (roomN q) (roomN q) (Nat.le_refl _) with e | ⟨a', b', h1, h2, e⟩
    · omega
    · obtain ⟨a, ha⟩ := SameR.from h h1
      obtain ⟨b, hb⟩ := SameR.from h h2
      rw [e, ← dist_same h ha hb]
      exact p1 a b (ha.lt h).1 (hb.lt h).1
  omega
theorem one_room {cl : Nat → Nat → Int} {h wd : Nat} (h1 : ∀ i j, i < h → j + 1 < wd → cl i j = cl i (j + 1)) (h2 : ∀ i j, i + 1 < h → j < wd → cl i j = cl (i + 1) j) : ∀ i j, i < h → j < wd → cl i j = cl 0 0 := by
  have row : ∀ j, j < wd → ∀ i, i < h → cl i j = cl i 0 := by
    intro j
    induction j with
    | zero => intro _ i _; rfl
    | succ j ih => intro hj i hi; rw [← h1 i j hi hj]; exact ih (by omega) i hi
  have col : ∀ i, i < h → 0 < wd → cl i 0 = cl 0 0 := by
    intro i
    induction i with
    | zero => intro _ _; rfl
    | succ i ih => intro hi hw; rw [← h2 i 0 hi hw]; exact ih (by omega) hw
  intro i j hi hj
  rw [row j hj i hi, col i hi (by omega)]
theorem some_near {p : List ByteArray} (hp : planG p = true) (h2 : 2 ≤ roomN p) : ∃ a b, a < roomN p ∧ b < roomN p ∧ nbP p a b = true := by
  have F := planFlat hp
  refine Classical.byContradiction fun hno => ?_
  have eqc : ∀ i j i' j', i < p.length → j < wdP p → i' < p.length → j' < wdP p → (∀ a b : Nat, clP p i j = (a : Int) → clP p i' j' = (b : Int) → a ≠ b → nbP p a b = true) → clP p i j = clP p i' j' := by
    intro i j i' j' hi hj hi' hj' hh
    obtain ⟨a, ha, ea⟩ := F.num i j hi hj
    obtain ⟨b, hb, eb⟩ := F.num i' j' hi' hj'
    by_cases e : a = b
    · rw [ea, eb, e]
    · exact absurd ⟨a, b, ha, hb, hh a b ea eb e⟩ hno
  have all := one_room (cl := clP p) (h := p.length) (wd := wdP p) (fun i j hi hj => eqc i j i (j + 1) hi (by omega) hi hj fun a b ea eb hne => nbB_iff.2 ⟨hne, .inl ⟨i, j, hi, hj, .inl ⟨ea, eb⟩⟩⟩) (fun i j hi hj => eqc i j (i + 1) j (by omega) hj hi hj fun a b ea eb hne => nbB_iff.2 ⟨hne, .inr ⟨i, j, hi, hj, .inl ⟨ea, eb⟩⟩⟩)
  obtain ⟨i, j, hi, hj, e0⟩ := has_cell hp (show 0 < roomN p by omega)
  obtain ⟨i', j', hi', hj', e1⟩ := has_cell hp (show 1 < roomN p by omega)
  rw [all i j hi hj] at e0
  rw [all i' j' hi' hj', e0] at e1
  cases e1
theorem far_facts {p : List ByteArray} (hp : planG p = true) : 0 ≤ farTo (nbP p) (roomN p) (roomN p) ∧ farTo (nbP p) (roomN p) (roomN p) < (roomN p : Int) ∧ (farTo (nbP p) (roomN p) (roomN p) = 0 ↔ roomN p = 1) := by
  have hn := roomN_pos hp
  obtain ⟨p0, p1⟩ := farTo_ge (nbP p) (roomN p) (roomN p) (Nat.le_refl _)
  have ex := farTo_ex (nbP p) (roomN p) (roomN p) (Nat.le_refl _)
  refine ⟨p0, ?_, fun h => ?_, fun h => ?_⟩
  · rcases ex with e | ⟨a, b, h1, h2, e⟩
    · omega
    · rw [e]; exact steps_few h1 h2
  · refine Classical.byContradiction fun hne => ?_
    obtain ⟨a, b, ha, hb, hnb⟩ := some_near hp (by omega)
    have h1 := p1 a b ha hb
    rw [steps_one ha hb hnb ((nbB_iff.1 hnb).1)] at h1
    omega
  · rcases ex with e | ⟨a, b, h1, h2, e⟩
    · exact e
    · rw [e]
      exact (steps_zero h1 h2).2 (by omega)
end Go.Proofs.Ytbpppchkgjcahaa
