/- PermIn, the program's and the reference's: what the printed functions come to, in plain Lean. Conditions: the list has at most 1000000000 numbers. -/
import Derived.Test.YtlhbdeebkkpkmaaPlaces
namespace Go.Proofs.Ytlhbdeebkkpkmaa
open Go.RowKit Go.Proofs.YtlhbdeebkkpkmaaW.PrintWords Go.Proofs.Ytlhbdeebkkpkmaa.L1
set_option linter.unusedVariables false

def permInB (l : List Int) : Bool := decide (1 ≤ l.length ∧ l.length ≤ 7) && (List.range l.length).all fun (i : Nat) => decide ((i : Int) ∈ l)

theorem rd_nat (l : List Int) (i : Nat) (h : i < l.length) : rd l (i : Int) = l[i] := by simp [rd, h]

theorem index_loop (l : List Int) (a : Int) (hl : l.length ≤ 1000000000) : ∀ (d k i : Nat), i + d = l.length → d < k →
    ∃ r, slices_Index_int_int.l0 k l a l.length i = some r ∧ (0 ≤ r ↔ a ∈ l.drop i) := by
  intro d
  induction d with
  | zero =>
    intro k i hi hk
    obtain ⟨k, rfl⟩ : ∃ q, k = q + 1 := ⟨k - 1, by omega⟩
    refine ⟨-1, ?_, ?_⟩
    · simp only [slices_Index_int_int.l0]; rw [if_neg (by omega)]
    · rw [List.drop_eq_nil_of_le (by omega)]; simp
  | succ d ih =>
    intro k i hi hk
    obtain ⟨k, rfl⟩ : ∃ q, k = q + 1 := ⟨k - 1, by omega⟩
    have hlt : i < l.length := by omega
    simp only [slices_Index_int_int.l0]
    rw [if_pos (by omega), if_pos (by omega), if_pos (by omega), rd_nat l i hlt, List.drop_eq_getElem_cons hlt, List.mem_cons]
    by_cases c : a = l[i]
    · rw [if_pos c]; exact ⟨_, rfl, iff_of_true (by omega) (.inl c)⟩
    · rw [if_neg c, wrap_small (by omega) (by omega)]
      obtain ⟨r, hr, hq⟩ := ih k (i + 1) (by omega) (by omega)
      refine ⟨r, by rw [← hr]; rfl, ?_⟩
      rw [hq]; exact ⟨.inr, fun h => h.resolve_left c⟩

theorem contains_f (l : List Int) (a : Int) (hl : l.length ≤ 1000000000) (k : Nat) (hk : l.length < k) : slices_Contains_int_int.f k l a = some (decide (a ∈ l)) := by
  unfold slices_Contains_int_int.f slices_Index_int_int.f
  obtain ⟨r, hr, hq⟩ := index_loop l a hl l.length k 0 (by omega) hk
  rw [show ((0 : Nat) : Int) = 0 from rfl] at hr
  rw [hr]
  simp only [Option.bind_some, List.drop_zero] at hq ⊢
  congr 1
  rw [Bool.eq_iff_iff]
  simp [hq]

theorem permIn_loop (l : List Int) (hl : l.length ≤ 1000000000) : ∀ (d k i : Nat), i + d = l.length → d + l.length + 1 < k →
    impl_PermIn.l0 k l l.length i = some ((List.range' i d).all fun (i : Nat) => decide ((i : Int) ∈ l)) := by
  intro d
  induction d with
  | zero =>
    intro k i hi hk
    obtain ⟨k, rfl⟩ : ∃ q, k = q + 1 := ⟨k - 1, by omega⟩
    simp only [impl_PermIn.l0]; rw [if_neg (by omega)]; simp
  | succ d ih =>
    intro k i hi hk
    obtain ⟨k, rfl⟩ : ∃ q, k = q + 1 := ⟨k - 1, by omega⟩
    simp only [impl_PermIn.l0]
    rw [if_pos (by omega), contains_f l i hl k (by omega)]
    simp only [Option.bind_some, List.range'_succ, List.all_cons]
    by_cases c : (i : Int) ∈ l
    · rw [if_pos (by simpa using c), wrap_small (by omega) (by omega)]
      have := ih k (i + 1) (by omega) (by omega)
      rw [show (((i + 1 : Nat)) : Int) = (i : Int) + 1 by omega] at this
      rw [this]; simp [c]
    · rw [if_neg (by simpa using c)]; simp [c]

theorem permIn_f (l : List Int) (hl : l.length ≤ 1000000000) : impl_PermIn.f (2 * l.length + 5) l = some (permInB l) := by
  unfold impl_PermIn.f permInB
  by_cases h1 : l.length < 1
  · rw [if_pos (by omega)]; simp only [impl_PermIn.j0, if_true]; rw [decide_eq_false (by omega)]; rfl
  · rw [if_neg (by omega)]
    by_cases h7 : l.length ≤ 7
    · rw [decide_eq_false (by omega)]
      simp only [impl_PermIn.j0]
      rw [if_neg (by simp)]
      have := permIn_loop l hl l.length (2 * l.length + 4) 0 (by omega) (by omega)
      rw [show ((0 : Nat) : Int) = 0 from rfl] at this
      rw [this, decide_eq_true (by omega), Bool.true_and, List.range_eq_range']
    · rw [decide_eq_true (by omega)]
      simp only [impl_PermIn.j0, if_true]
      rw [decide_eq_false (by omega)]; rfl

/-- n numbers among which are all below n: they are those. -/
theorem range_of_all : ∀ (n : Nat) (l : List Int), l.length = n → (∀ i : Nat, i < n → (i : Int) ∈ l) → ∀ x ∈ l, 0 ≤ x ∧ x < n := by
  intro n
  induction n with
  | zero => intro l hl _ x hx; rw [List.eq_nil_of_length_eq_zero hl] at hx; cases hx
  | succ n ih =>
    intro l hl h x hx
    have hn := h n (by omega)
    have h1 : (l.erase (n : Int)).length = n := by rw [List.length_erase_of_mem hn]; omega
    have h2 : ∀ i : Nat, i < n → (i : Int) ∈ l.erase (n : Int) := fun i hi => (List.mem_erase_of_ne (by omega)).2 (h i (by omega))
    by_cases c : x = n
    · omega
    · have := ih _ h1 h2 x ((List.mem_erase_of_ne c).2 hx); omega

theorem or_small (a b : Nat) (ha : a < 2 ^ 8) (hb : b < 2 ^ 8) : Go.bits .or .i64 a b = ((a ||| b : Nat) : Int) :=
  (bits_nat .i64 8 (by decide) (fun n h0 h1 => by rw [IntKind.wrap_i64]; omega) a b ha hb).2
theorem shl_one (x : Int) (h0 : 0 ≤ x) (h : x ≤ 7) : shl .i64 1 x = ((2 ^ x.toNat : Nat) : Int) := by
  obtain ⟨n, rfl⟩ := Int.eq_ofNat_of_zero_le h0
  have hn : n ≤ 7 := by omega
  have : ∀ n : Nat, n ≤ 7 → shl .i64 1 n = ((2 ^ n : Nat) : Int) := by decide
  exact this n hn

/-- The numbers of l from i on, laid into a mask. -/
def maskOf : List Int → Nat → Nat
  | [], m => m
  | x :: l, m => maskOf l (m ||| 2 ^ x.toNat)
theorem maskOf_lt : ∀ (l : List Int) (m : Nat), m < 2 ^ 7 → (∀ x ∈ l, 0 ≤ x ∧ x < 7) → maskOf l m < 2 ^ 7
  | [], m, h, _ => h
  | x :: l, m, h, hx => maskOf_lt l _ (Nat.or_lt_two_pow h (Nat.pow_lt_pow_right (by omega) (by have := hx x (by simp); omega))) (fun y hy => hx y (by simp [hy]))
theorem maskOf_bit : ∀ (l : List Int) (m : Nat) (t : Nat), (∀ x ∈ l, 0 ≤ x) → ((maskOf l m).testBit t = true ↔ m.testBit t = true ∨ (t : Int) ∈ l)
  | [], m, t, _ => by simp [maskOf]
  | x :: l, m, t, h => by
    have hx := h x (by simp)
    rw [maskOf, maskOf_bit l _ t (fun y hy => h y (by simp [hy])), Nat.testBit_or, Bool.or_eq_true, Nat.testBit_two_pow, decide_eq_true_eq, List.mem_cons, or_assoc]
    have : x.toNat = t ↔ (t : Int) = x := by omega
    rw [this]
theorem mask_full (n m : Nat) (hm : m < 2 ^ 7) (hn : n ≤ 7) (hb : ∀ t, m.testBit t = true → t < n) : m = 2 ^ n - 1 ↔ ∀ i : Nat, i < n → m.testBit i = true := by
  constructor
  · rintro rfl i hi
    rw [Nat.testBit_two_pow_sub_one]; simpa using hi
  · intro h
    apply Nat.eq_of_testBit_eq
    intro i
    rw [Nat.testBit_two_pow_sub_one]
    by_cases hi : i < n
    · rw [h i hi]; simp [hi]
    · rw [decide_eq_false hi]
      by_cases c : m.testBit i = true
      · exact absurd (hb i c) hi
      · simpa using c

theorem eqb_pow (m p : Nat) (hp : 1 ≤ p) : ((m : Int) == (p : Int) - 1) = decide (m = p - 1) := by
  rw [Bool.eq_iff_iff, beq_iff_eq, decide_eq_true_eq]; omega
def inAll (n : Nat) (l : List Int) : Bool := l.all fun x => decide (0 ≤ x) && decide (x < (n : Int))
theorem inAll_iff (n : Nat) (l : List Int) : inAll n l = true ↔ ∀ x ∈ l, 0 ≤ x ∧ x < (n : Int) := by
  unfold inAll; simp only [List.all_eq_true, Bool.and_eq_true, decide_eq_true_eq]
theorem specIn_loop (l : List Int) (h7 : l.length ≤ 7) (h1 : 1 ≤ l.length) : ∀ (d k i m : Nat), i + d = l.length → d < k → m < 2 ^ 7 → (∀ x ∈ l.take i, 0 ≤ x ∧ x < l.length) →
    spec_PermIn.l0 k l m i = some (inAll l.length (l.drop i) && decide (maskOf (l.drop i) m = 2 ^ l.length - 1)) := by
  intro d
  induction d with
  | zero =>
    intro k i m hi hk hm _
    obtain ⟨k, rfl⟩ : ∃ q, k = q + 1 := ⟨k - 1, by omega⟩
    simp only [spec_PermIn.l0]
    rw [if_neg (by omega), List.drop_eq_nil_of_le (by omega)]
    unfold spec_l6In.f
    rw [if_pos (by omega)]
    simp only [Option.bind_some]
    rw [if_pos (by simp; omega), shl_one _ (by omega) (by omega)]
    simp only [maskOf]
    congr 1
    have hp : 1 ≤ 2 ^ l.length := Nat.one_le_two_pow
    have hp2 : 2 ^ l.length ≤ 2 ^ 7 := Nat.pow_le_pow_right (by omega) h7
    rw [Int.toNat_natCast, wrap_small (by omega) (by omega), eqb_pow _ _ hp]
    rfl
  | succ d ih =>
    intro k i m hi hk hm ht
    obtain ⟨k, rfl⟩ : ∃ q, k = q + 1 := ⟨k - 1, by omega⟩
    have hlt : i < l.length := by omega
    simp only [spec_PermIn.l0]
    rw [if_pos (by omega), if_pos (by omega), rd_nat l i hlt, List.drop_eq_getElem_cons hlt, wrap_small (by omega) (by omega)]
    unfold spec_l6In.f
    by_cases c : 0 ≤ l[i] ∧ l[i] < l.length
    · rw [if_pos (by omega)]
      simp only [Option.bind_some]
      rw [if_pos (by simp; omega), if_pos c.1, shl_one _ c.1 (by omega)]
      have hb : 2 ^ l[i].toNat < 2 ^ 7 := Nat.pow_lt_pow_right (by omega) (by omega)
      rw [or_small m _ (by omega) (by omega), wrap_small (by omega) (by omega)]
      have := ih k (i + 1) (m ||| 2 ^ l[i].toNat) (by omega) (by omega) (Nat.or_lt_two_pow hm hb) (fun x hx => by
        rw [List.take_succ_eq_append_getElem hlt] at hx
        rcases List.mem_append.1 hx with hx | hx
        · exact ht x hx
        · rw [List.mem_singleton.1 hx]; exact c)
      rw [show (((i + 1 : Nat)) : Int) = (i : Int) + 1 by omega] at this
      rw [this, maskOf]
      congr 2
      unfold inAll
      rw [List.all_cons, decide_eq_true c.1, decide_eq_true c.2]
      rfl
    · have hf : inAll l.length (l[i] :: l.drop (i + 1)) = false := by
        rw [← Bool.not_eq_true, inAll_iff]
        exact fun h => c (h _ List.mem_cons_self)
      rw [hf]
      by_cases c0 : l[i] ≥ 0
      · rw [if_pos c0]; simp only [Option.bind_some]; rw [if_neg (by simp; omega)]; rfl
      · rw [if_neg c0]; simp

theorem specIn_long (l : List Int) (h7 : 7 < l.length ∨ l.length = 0) (hl : l.length ≤ 1000000000) : ∀ (d k i : Nat) (m : Int), i + d = l.length → d < k → spec_PermIn.l0 k l m i = some false := by
  intro d
  induction d with
  | zero =>
    intro k i m hi hk
    obtain ⟨k, rfl⟩ : ∃ q, k = q + 1 := ⟨k - 1, by omega⟩
    simp only [spec_PermIn.l0]
    rw [if_neg (by omega)]
    unfold spec_l6In.f
    rcases h7 with h7 | h7
    · rw [if_pos (by omega)]; simp only [Option.bind_some]; rw [if_neg (by simp; omega)]
    · rw [if_neg (by omega)]; simp
  | succ d ih =>
    intro k i m hi hk
    obtain ⟨k, rfl⟩ : ∃ q, k = q + 1 := ⟨k - 1, by omega⟩
    have hlt : i < l.length := by omega
    simp only [spec_PermIn.l0]
    rw [if_pos (by omega), if_pos (by omega)]
    unfold spec_l6In.f
    by_cases c0 : rd l i ≥ 0
    · rw [if_pos c0]
      simp only [Option.bind_some]
      by_cases c1 : decide (rd l i ≤ wrap64 ((l.length : Int) - 1)) = true
      · rw [if_pos c1, if_pos c0, wrap_small (by omega) (by omega)]
        have := ih k (i + 1) (Go.bits .or .i64 m (shl .i64 1 (rd l i))) (by omega) (by omega)
        rw [show (((i + 1 : Nat)) : Int) = (i : Int) + 1 by omega] at this
        exact this
      · rw [if_neg c1]
    · rw [if_neg c0]; simp

theorem specIn_f (l : List Int) (hl : l.length ≤ 1000000000) : spec_PermIn.f (l.length + 5) l = some (permInB l) := by
  unfold spec_PermIn.f
  by_cases h : 1 ≤ l.length ∧ l.length ≤ 7
  · have := specIn_loop l h.2 h.1 l.length (l.length + 5) 0 0 (by omega) (by omega) (by decide) (by simp)
    rw [show ((0 : Nat) : Int) = 0 from rfl] at this
    rw [this, List.drop_zero]
    unfold permInB
    rw [decide_eq_true h, Bool.true_and]
    congr 1
    rw [Bool.eq_iff_iff]
    rw [Bool.and_eq_true, inAll_iff]
    simp only [decide_eq_true_eq, List.all_eq_true, List.mem_range]
    constructor
    · rintro ⟨h1, h2⟩ i hi
      have hlt := maskOf_lt l 0 (by decide) (fun x hx => ⟨(h1 x hx).1, by have := (h1 x hx).2; omega⟩)
      have := (mask_full l.length _ hlt h.2 (fun t ht => by
        rcases (maskOf_bit l 0 t (fun x hx => (h1 x hx).1)).1 ht with h' | h'
        · simp at h'
        · have := (h1 _ h').2; omega)).1 h2 i hi
      rcases (maskOf_bit l 0 i (fun x hx => (h1 x hx).1)).1 this with h' | h'
      · simp at h'
      · exact h'
    · intro h2
      have h1 := range_of_all l.length l rfl h2
      refine ⟨h1, ?_⟩
      have hlt := maskOf_lt l 0 (by decide) (fun x hx => ⟨(h1 x hx).1, by have := (h1 x hx).2; omega⟩)
      refine (mask_full l.length _ hlt h.2 (fun t ht => ?_)).2 (fun i hi => (maskOf_bit l 0 i (fun x hx => (h1 x hx).1)).2 (.inr (h2 i hi)))
      rcases (maskOf_bit l 0 t (fun x hx => (h1 x hx).1)).1 ht with h' | h'
      · simp at h'
      · have := (h1 _ h').2; omega
  · have := specIn_long l (by omega) hl l.length (l.length + 5) 0 0 (by omega) (by omega)
    rw [show ((0 : Nat) : Int) = 0 from rfl] at this
    rw [this]
    unfold permInB
    rw [decide_eq_false h]; rfl
end Go.Proofs.Ytlhbdeebkkpkmaa
