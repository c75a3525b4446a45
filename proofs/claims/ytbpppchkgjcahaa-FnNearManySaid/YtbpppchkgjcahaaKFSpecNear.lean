/- The reference's neighbours: l4Length, l4Beside, l4Of, NearMany. -/
import Derived.Test.YtbpppchkgjcahaaKFL12x
import Derived.Test.YtbpppchkgjcahaaKFShelf2M
import Derived.Test.YtbpppchkgjcahaaKFFloorRM
namespace Go.Proofs.Ytbpppchkgjcahaa
open Go.RowKit Go.Shelf Go.Proofs.YtbpppchkgjcahaaW.PrintWords Go.Proofs.YtbpppchkgjcahaaW.PrintMore
set_option linter.unusedVariables false
set_option linter.unusedSimpArgs false
theorem wlet (v : Int) (h : 97 ≤ v ∧ v ≤ 122) : wrap64 (wrap64 v - 97) = v - 97 := by unfold wrap64; omega
theorem wpred (j : Nat) (h : j ≤ 1000) : wrap64 (((j + 1 : Nat) : Int) - 1) = (j : Int) := by unfold wrap64; omega
def hitG (G : Nat → Nat → Int) (a b : Int) (i j : Nat) : Prop := (G i j - 97 = a ∧ G i (j + 1) - 97 = b) ∨ (G i j - 97 = b ∧ G i (j + 1) - 97 = a)
theorem len_step {p : List ByteArray} {h w : Nat} {G : Nat → Nat → Int} (t : TG p h w G) (a b : Int) {i j n : Nat} (hi : i < h) (hj : j + 1 < w) (hn : n ≤ 1000) :
    ∃ m, m ≤ 1 ∧ (0 < m ↔ hitG G a b i j) ∧ ∀ k, L12.spec_l4Length.l1 (k + 1) p a b (n : Int) (i : Int) ((j + 1 : Nat) : Int) = L12.spec_l4Length.l1 k p a b ((n + m : Nat) : Int) (i : Int) ((j + 1 + 1 : Nat) : Int) := by
  have hl := t.len
  have hs := t.size i hi
  have hw := t.wide
  have e1 := t.cell i j hi (by omega)
  have e2 := t.cell i (j + 1) hi hj
  have g1 := t.let_ i j hi (by omega)
  have g2 := t.let_ i (j + 1) hi hj
  have c1 : (0 : Int) ≤ (i : Int) := by omega
  have c2 : (i : Int) < (p.length : Int) := by omega
  have c3 : ((j + 1 : Nat) : Int) < ((rdOf ByteArray.empty p (i : Int)).size : Int) := by rw [hs]; omega
  have c4 : (0 : Int) ≤ (j : Int) := by omega
  have c5 : (j : Int) < ((rdOf ByteArray.empty p (i : Int)).size : Int) := by rw [hs]; omega
  have c6 : (0 : Int) ≤ ((j + 1 : Nat) : Int) := by omega
  have w1 := wpred j (by omega)
  have w2 := wlet _ g1
  have w3 := wlet _ g2
  have w4 : wrap64 (((j + 1 : Nat) : Int) + 1) = ((j + 1 + 1 : Nat) : Int) := wsucc (by omega)
  have w5 : wrap64 ((n : Int) + 1) = ((n + 1 : Nat) : Int) := wsucc (by omega)
  have hU : ∀ k, L12.spec_l4Length.l1 (k + 1) p a b (n : Int) (i : Int) ((j + 1 : Nat) : Int) = if G i j - 97 = a then (if G i (j + 1) - 97 = b then L12.spec_l4Length.l1 k p a b ((n + 1 : Nat) : Int) (i : Int) ((j + 1 + 1 : Nat) : Int) else (if G i j - 97 = b then (if G i (j + 1) - 97 = a then L12.spec_l4Length.l1 k p a b ((n + 1 : Nat) : Int) (i : Int) ((j + 1 + 1 : Nat) : Int) else L12.spec_l4Length.l1 k p a b (n : Int) (i : Int) ((j + 1 + 1 : Nat) : Int)) else L12.spec_l4Length.l1 k p a b (n : Int) (i : Int) ((j + 1 + 1 : Nat) : Int))) else (if G i j - 97 = b then (if G i (j + 1) - 97 = a then L12.spec_l4Length.l1 k p a b ((n + 1 : Nat) : Int) (i : Int) ((j + 1 + 1 : Nat) : Int) else L12.spec_l4Length.l1 k p a b (n : Int) (i : Int) ((j + 1 + 1 : Nat) : Int)) else L12.spec_l4Length.l1 k p a b (n : Int) (i : Int) ((j + 1 + 1 : Nat) : Int)) := fun k => by
    conv => lhs; unfold L12.spec_l4Length.l1
    rw [if_pos c1, if_pos c2, if_pos c3, w1, if_pos c4, if_pos c5, if_pos c6, e1, e2, w2, w3, w4, w5]
  by_cases h1 : G i j - 97 = a ∧ G i (j + 1) - 97 = b
  · refine ⟨1, Nat.le_refl _, ⟨fun _ => .inl h1, fun _ => by omega⟩, fun k => ?_⟩
    rw [hU k, if_pos h1.1, if_pos h1.2]
  · by_cases h2 : G i j - 97 = b ∧ G i (j + 1) - 97 = a
    · refine ⟨1, Nat.le_refl _, ⟨fun _ => .inr h2, fun _ => by omega⟩, fun k => ?_⟩
      rw [hU k]
      by_cases h3 : G i j - 97 = a
      · rw [if_pos h3, if_neg (fun h => h1 ⟨h3, h⟩), if_pos h2.1, if_pos h2.2]
      · rw [if_neg h3, if_pos h2.1, if_pos h2.2]
    · refine ⟨0, by omega, ⟨fun h => absurd h (by omega), fun h => absurd h (fun hh => hh.elim h1 h2)⟩, fun k => ?_⟩
      rw [hU k]
      by_cases h3 : G i j - 97 = a
      · rw [if_pos h3, if_neg (fun h => h1 ⟨h3, h⟩)]
        by_cases h4 : G i j - 97 = b
        · rw [if_pos h4, if_neg (fun h => h2 ⟨h4, h⟩)]; rfl
        · rw [if_neg h4]; rfl
      · rw [if_neg h3]
        by_cases h4 : G i j - 97 = b
        · rw [if_pos h4, if_neg (fun h => h2 ⟨h4, h⟩)]; rfl
        · rw [if_neg h4]; rfl
theorem len_row {p : List ByteArray} {h w : Nat} {G : Nat → Nat → Int} (t : TG p h w G) (a b : Int) {i : Nat} (hi : i < h) :
    ∀ d j n, j + 1 + d = w → n + d ≤ 1000 → ∃ m, m ≤ d ∧ (0 < m ↔ ∃ j', j ≤ j' ∧ j' + 1 < w ∧ hitG G a b i j') ∧ ∀ R, Ev (fun k => L12.spec_l4Length.l0 k p a b ((n + m : Nat) : Int) ((i + 1 : Nat) : Int)) R → Ev (fun k => L12.spec_l4Length.l1 k p a b (n : Int) (i : Int) ((j + 1 : Nat) : Int)) R := by
  intro d
  induction d with
  | zero =>
    intro j n hj hn
    refine ⟨0, Nat.le_refl _, ⟨fun h => absurd h (by omega), fun ⟨j', h1, h2, _⟩ => by omega⟩, fun R hR => hR.step fun k => ?_⟩
    have hl := t.len
    have hh := t.high
    have c3 : ¬ ((j + 1 : Nat) : Int) < ((rdOf ByteArray.empty p (i : Int)).size : Int) := by rw [t.size i hi]; omega
    conv => lhs; unfold L12.spec_l4Length.l1
    rw [if_pos (by omega), if_pos (by omega), if_neg c3, wsucc (by omega)]
    rfl
  | succ d ih =>
    intro j n hj hn
    obtain ⟨m1, h1, h2, h3⟩ := len_step t a b (n := n) hi (show j + 1 < w by omega) (by omega)
    obtain ⟨m2, k1, k2, k3⟩ := ih (j + 1) (n + m1) (by omega) (by omega)
    refine ⟨m1 + m2, by omega, ⟨fun hp => ?_, ?_⟩, fun R hR => (k3 R (by rwa [Nat.add_assoc])).step fun k => h3 k⟩
    · by_cases hm : 0 < m1
      · exact ⟨j, Nat.le_refl _, by omega, h2.1 hm⟩
      · obtain ⟨j', q1, q2, q3⟩ := k2.1 (by omega)
        exact ⟨j', by omega, q2, q3⟩
    · rintro ⟨j', q1, q2, q3⟩
      by_cases e : j' = j
      · subst e
        have := h2.2 q3
        omega
      · have := k2.2 ⟨j', by omega, q2, q3⟩
        omega
theorem lenb {m1 m2 d w : Nat} (h1 : m1 ≤ w - 1) (k1 : m2 ≤ d * 6) (hw : 1 ≤ w ∧ w ≤ 6) : m1 + m2 ≤ (d + 1) * 6 := by omega
theorem len_all {p : List ByteArray} {h w : Nat} {G : Nat → Nat → Int} (t : TG p h w G) (a b : Int) :
    ∀ d i n, i + d = h → n + d * 6 ≤ 900 → ∃ m, m ≤ d * 6 ∧ (0 < m ↔ ∃ i' j', i ≤ i' ∧ i' < h ∧ j' + 1 < w ∧ hitG G a b i' j') ∧ Ev (fun k => L12.spec_l4Length.l0 k p a b (n : Int) (i : Int)) ((n + m : Nat) : Int) := by
  have hw := t.wide
  have hl := t.len
  intro d
  induction d with
  | zero =>
    intro i n hi hn
    refine ⟨0, by omega, ⟨fun h => absurd h (by omega), fun ⟨i', j', h1, h2, _⟩ => by omega⟩, Ev.now fun k => ?_⟩
    unfold L12.spec_l4Length.l0
    rw [if_neg (by omega)]
    rfl
  | succ d ih =>
    intro i n hi hn
    obtain ⟨m1, h1, h2, h3⟩ := len_row t a b (show i < h by omega) (w - 1) 0 n (by omega) (by omega)
    obtain ⟨m2, k1, k2, k3⟩ := ih (i + 1) (n + m1) (by omega) (by omega)
    refine ⟨m1 + m2, lenb h1 k1 hw, ⟨fun hp => ?_, ?_⟩, ?_⟩
    · by_cases hm : 0 < m1
      · obtain ⟨j', q1, q2, q3⟩ := h2.1 hm
        exact ⟨i, j', Nat.le_refl _, by omega, q2, q3⟩
      · obtain ⟨i', j', q1, q2, q3, q4⟩ := k2.1 (by omega)
        exact ⟨i', j', by omega, q2, q3, q4⟩
    · rintro ⟨i', j', q1, q2, q3, q4⟩
      by_cases e : i' = i
      · subst e
        have := h2.2 ⟨j', by omega, q3, q4⟩
        omega
      · have := k2.2 ⟨i', j', by omega, q2, q3, q4⟩
        omega
    · refine (h3 _ (by rw [← Nat.add_assoc]; exact k3)).step fun k => ?_
      conv => lhs; unfold L12.spec_l4Length.l0
      rw [if_pos (by omega)]
      rfl
theorem length_f {p : List ByteArray} {h w : Nat} {G : Nat → Nat → Int} (t : TG p h w G) (a b : Int) : ∃ m : Nat, m ≤ 36 ∧ (0 < m ↔ ∃ i j, i < h ∧ j + 1 < w ∧ hitG G a b i j) ∧ Ev (fun k => L12.spec_l4Length.f k p a b) (m : Int) := by
  have hh := t.high
  obtain ⟨m, h1, h2, h3⟩ := len_all t a b h 0 0 (by omega) (by omega)
  refine ⟨m, by omega, ⟨fun hp => ?_, ?_⟩, by rw [Nat.zero_add] at h3; exact h3⟩
  · obtain ⟨i', j', _, q2, q3, q4⟩ := h2.1 hp
    exact ⟨i', j', q2, q3, q4⟩
  · rintro ⟨i', j', q2, q3, q4⟩
    exact h2.2 ⟨i', j', by omega, q2, q3, q4⟩
theorem wsum {x y : Nat} (hx : x ≤ 36) (hy : y ≤ 36) : wrap64 ((x : Int) + (y : Int)) = ((x + y : Nat) : Int) := by unfold wrap64; omega
theorem beside_f {p : List ByteArray} (hpl : planG p = true) (a b : Nat) : ∃ m : Nat, m ≤ 72 ∧ decide (0 < m) = nbP p a b ∧ Ev (fun k => L12.spec_l4Beside.f k p (a : Int) (b : Int)) (m : Int) := by
  have t := planTG hpl
  by_cases hab : a = b
  · subst hab
    refine ⟨0, by omega, ?_, ⟨0, fun k _ => ?_⟩⟩
    · cases h : nbP p a a with
      | false => rfl
      | true => exact absurd rfl ((nbB_iff.1 h).1)
    · show L12.spec_l4Beside.f k p _ _ = _
      unfold L12.spec_l4Beside.f
      rw [if_pos rfl]; rfl
  · obtain ⟨m1, a1, a2, a3⟩ := length_f t (a : Int) (b : Int)
    have tt := trans_TG t
    obtain ⟨m2, b1, b2, b3⟩ := length_f tt (a : Int) (b : Int)
    have htr : spec_l1Trans.f p = some (transT p.length (wdP p) (gridOf (clP p) 0 0)) := tot_ev (trans_f t)
    refine ⟨m1 + m2, by omega, ?_, ?_⟩
    · rw [Bool.eq_iff_iff, decide_eq_true_iff]
      show _ ↔ nbB (clP p) p.length (wdP p) a b = true
      rw [nbB_iff]
      have g : ∀ i j (x : Nat), gridOf (clP p) 0 0 i j - 97 = (x : Int) ↔ clP p i j = (x : Int) := fun i j x => by
        unfold gridOf
        rw [Nat.zero_add, Nat.zero_add]; omega
      have e1 : (0 < m1 + m2) ↔ (0 < m1 ∨ 0 < m2) := by omega
      rw [e1, a2, b2]
      unfold BesideC hitG
      constructor
      · rintro (⟨i, j, h1, h2, h3⟩ | ⟨i, j, h1, h2, h3⟩)
        · refine ⟨hab, .inl ⟨i, j, h1, h2, ?_⟩⟩
          rwa [g, g, g, g] at h3
        · refine ⟨hab, .inr ⟨j, i, h2, h1, ?_⟩⟩
          rwa [g, g, g, g] at h3
      · rintro ⟨_, ⟨i, j, h1, h2, h3⟩ | ⟨i, j, h1, h2, h3⟩⟩
        · refine .inl ⟨i, j, h1, h2, ?_⟩
          rwa [g, g, g, g]
        · refine .inr ⟨j, i, h2, h1, ?_⟩
          rwa [g, g, g, g]
    · refine Ev.same (Ev.bind (F := fun k (t104 : Int) => (L12.spec_l4Length.f k (transT p.length (wdP p) (gridOf (clP p) 0 0)) a b).bind fun t108 => some (wrap64 (t104 + t108))) a3 (Ev.bind (F := fun k (t108 : Int) => some (wrap64 ((m1 : Int) + t108))) b3 (by rw [wsum a1 b1]; exact Ev.const _))) fun k => ?_
      unfold L12.spec_l4Beside.f
      rw [if_neg (show ¬ (a : Int) = (b : Int) from fun e => hab (Int.ofNat.inj e)), htr]
      rfl
theorem rooms_some {p : List ByteArray} (hpl : planG p = true) : spec_l1Rooms.f p = some (roomN p : Int) := tot_ev (plan_roomsE hpl)
def pairN (nb : Nat → Nat → Bool) (k : Nat) : Nat := ((List.range k).map fun a => (nearTo nb a a).length).sum
theorem pairN_succ (nb : Nat → Nat → Bool) (k : Nat) : pairN nb (k + 1) = pairN nb k + (nearTo nb k k).length := by
  unfold pairN
  rw [List.range_succ, List.map_append, List.sum_append]; simp
theorem pairN_le (nb : Nat → Nat → Bool) (k : Nat) : pairN nb k ≤ k * k := by
  induction k with
  | zero => exact Nat.zero_le _
  | succ k ih =>
    rw [pairN_succ, Nat.succ_mul]
    have := nearTo_len nb k k
    have : k * k ≤ k * (k + 1) := Nat.mul_le_mul_left _ (by omega)
    omega
theorem sum_wide (nb : Nat → Nat → Bool) (hs : ∀ x y, nb x y = nb y x) (n : Nat) : ∀ k, ((List.range k).map fun a => (nearTo nb a (n + 1)).length).sum = sumNear nb n k + (nearTo nb n k).length := by
  intro k
  induction k with
  | zero => rfl
  | succ k ih =>
    rw [List.range_succ, List.map_append, List.sum_append, ih, sumNear_succ, nearTo_succ nb n k]
    have e : (nearTo nb k (n + 1)).length = (nearTo nb k n).length + if nb n k then 1 else 0 := by
      rw [nearTo_succ, hs k n]
      split <;> simp
    have e2 : (if nb n k = true then nearTo nb n k ++ [(k : Int)] else nearTo nb n k).length = (nearTo nb n k).length + if nb n k then 1 else 0 := by split <;> simp
    rw [e2]
    simp only [List.map_singleton, List.sum_singleton, e]
    omega
theorem sum_pairs (nb : Nat → Nat → Bool) (hs : ∀ x y, nb x y = nb y x) (hi : ∀ x, nb x x = false) : ∀ n, sumNear nb n n = 2 * pairN nb n := by
  intro n
  induction n with
  | zero => rfl
  | succ n ih =>
    rw [pairN_succ]
    have e : sumNear nb (n + 1) (n + 1) = ((List.range n).map fun a => (nearTo nb a (n + 1)).length).sum + (nearTo nb n (n + 1)).length := sumNear_succ nb (n + 1) n
    have e2 : (nearTo nb n (n + 1)).length = (nearTo nb n n).length := by
      rw [nearTo_succ, hi n]; rfl
    rw [e, sum_wide nb hs n n, e2, ih]
    omega
theorem nbP_symm (p : List ByteArray) (x y : Nat) : nbP p x y = nbP p y x := nbB_symm _ _ _ x y
theorem nbP_irr (p : List ByteArray) (x : Nat) : nbP p x x = false := by
  cases h : nbP p x x with
  | false => rfl
  | true => exact absurd rfl ((nbB_iff.1 h).1)
theorem many_pairs (p : List ByteArray) : sumNear (nbP p) (roomN p) (roomN p) / 2 = pairN (nbP p) (roomN p) := by
  rw [sum_pairs _ (nbP_symm p) (nbP_irr p)]; omega
theorem many_l1 {p : List ByteArray} (hpl : planG p = true) (a s : Nat) (ha : a < roomN p) (hs : s ≤ 100) : ∀ d b, b + d = a → ∀ R, Ev (fun k => L12.spec_NearMany.l0 k p ((s + (nearTo (nbP p) a a).length : Nat) : Int) ((a + 1 : Nat) : Int)) R → Ev (fun k => L12.spec_NearMany.l1 k p ((s + (nearTo (nbP p) a b).length : Nat) : Int) (a : Int) (b : Int)) R := by
  have hn := roomN_pos hpl
  intro d
  induction d with
  | zero =>
    intro b hb R hR
    obtain rfl : b = a := by omega
    refine hR.step fun k => ?_
    conv => lhs; unfold L12.spec_NearMany.l1
    rw [if_neg (by omega), wsucc (by omega)]
  | succ d ih =>
    intro b hb R hR
    obtain ⟨m, h1, h2, h3⟩ := beside_f hpl a b
    have hE := ih (b + 1) (by omega) R hR
    have hlen := nearTo_len (nbP p) a b
    rw [nearTo_succ] at hE
    refine Ev.stepBind (F := fun k (t111 : Int) => (if t111 > 0 then (L12.spec_NearMany.l1 k p ((s + (nearTo (nbP p) a b).length + 1 : Nat) : Int) (a : Int) ((b + 1 : Nat) : Int)) else (L12.spec_NearMany.l1 k p ((s + (nearTo (nbP p) a b).length : Nat) : Int) (a : Int) ((b + 1 : Nat) : Int)))) h3 (fun k => ?_) ?_
    · conv => lhs; unfold L12.spec_NearMany.l1
      rw [if_pos (by omega), wsucc (show b ≤ 9000000 by omega), wsucc (show s + (nearTo (nbP p) a b).length ≤ 9000000 by omega)]
    · cases hb2 : nbP p a b with
      | true =>
        rw [hb2, if_pos rfl, List.length_append] at hE
        rw [hb2] at h2
        have hm : 0 < m := of_decide_eq_true h2
        simp only [if_pos (show (m : Int) > 0 by omega)]
        exact hE
      | false =>
        rw [hb2, if_neg (by simp)] at hE
        rw [hb2] at h2
        have hm : ¬ 0 < m := of_decide_eq_false h2
        simp only [if_neg (show ¬ (m : Int) > 0 by omega)]
        exact hE
theorem many_l0 {p : List ByteArray} (hpl : planG p = true) : ∀ d a, a + d = roomN p → Ev (fun k => L12.spec_NearMany.l0 k p (pairN (nbP p) a : Int) (a : Int)) ((pairN (nbP p) (roomN p) : Int), true) := by
  have hr := rooms_some hpl
  have hn := roomN_pos hpl
  intro d
  induction d with
  | zero =>
    intro a ha
    refine Ev.now fun k => ?_
    unfold L12.spec_NearMany.l0
    rw [hr, Option.bind_some, if_neg (by omega), show a = roomN p by omega]
  | succ d ih =>
    intro a ha
    have hE := ih (a + 1) (by omega)
    rw [pairN_succ] at hE
    have hle := pairN_le (nbP p) a
    have hmul : a * a ≤ 9 * 9 := Nat.mul_le_mul (by omega) (by omega)
    refine (many_l1 hpl a (pairN (nbP p) a) (by omega) (by omega) a 0 (by omega) _ hE).step fun k => ?_
    conv => lhs; unfold L12.spec_NearMany.l0
    rw [hr, Option.bind_some, if_pos (by omega)]
    rfl
theorem many_ev (p : List ByteArray) (hp : SmallP p) : Ev (fun k => L12.spec_NearMany.f k p) (manyNP p) := by
  have hPI : spec_PlanIn.f p = some (planG p) := by unfold spec_PlanIn.f; rw [if_pos hp]
  unfold manyNP
  cases hpl : planG p with
  | false =>
    rw [hpl] at hPI
    refine Ev.now fun k => ?_
    unfold L12.spec_NearMany.f
    rw [hPI, Option.bind_some, if_neg (by simp), if_neg (by simp)]
  | true =>
    rw [hpl] at hPI
    rw [if_pos rfl, many_pairs]
    refine Ev.same (many_l0 hpl (roomN p) 0 (by omega)) fun k => ?_
    unfold L12.spec_NearMany.f
    rw [hPI, Option.bind_some, if_pos rfl]
    rfl
end Go.Proofs.Ytbpppchkgjcahaa
