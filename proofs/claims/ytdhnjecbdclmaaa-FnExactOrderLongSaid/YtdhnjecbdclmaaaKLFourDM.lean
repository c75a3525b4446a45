/- Texts of this claim's, joined by a program: LFourD, LSpecPoints, LFlat, LPtsP, LRunP, LWallN, LWallsL. -/
import Derived.Lib.SlicesCompact
import Derived.Test.YtdhnjecbdclmaaaKLPartM
import Derived.Test.YtdhnjecbdclmaaaKLL7x
section
namespace Go.Proofs.Ytdhnjecbdclmaaa
open Go.Lib (compact compactUpTo compactUpTo_succ keeps)
def firsts4 (a b c d : Int) : List Int := [a] ++ (if b ≠ a then [b] else []) ++ (if c ≠ a ∧ c ≠ b then [c] else []) ++ (if d ≠ a ∧ d ≠ b ∧ d ≠ c then [d] else [])
theorem firsts4_mem (a b c d x : Int) : x ∈ firsts4 a b c d ↔ x = a ∨ x = b ∨ x = c ∨ x = d := by
  unfold firsts4
  by_cases h1 : b = a <;> by_cases h2 : c = a <;> by_cases h3 : c = b <;> by_cases h4 : d = a <;> by_cases h5 : d = b <;> by_cases h6 : d = c <;> simp [h1, h2, h3, h4, h5, h6] <;> omega
theorem firsts4_nodup (a b c d : Int) : (firsts4 a b c d).Nodup := by
  unfold firsts4
  by_cases h1 : b = a <;> by_cases h2 : c = a <;> by_cases h3 : c = b <;> by_cases h4 : d = a <;> by_cases h5 : d = b <;> by_cases h6 : d = c <;> simp [h1, h2, h3, h4, h5, h6] <;> omega
theorem compact4 (p q s t : Int) : compact [p, q, s, t] = [p] ++ (if q ≠ p then [q] else []) ++ (if s ≠ q then [s] else []) ++ (if t ≠ s then [t] else []) := by
  show compactUpTo #[p, q, s, t] (0 + 1 + 1 + 1 + 1) = _
  rw [compactUpTo_succ, compactUpTo_succ, compactUpTo_succ, compactUpTo_succ]
  have h0 : compactUpTo #[p, q, s, t] 0 = [] := rfl
  have k0 : keeps #[p, q, s, t] 0 = true := by simp [keeps]
  have k1 : keeps #[p, q, s, t] (0 + 1) = decide (q ≠ p) := by simp [keeps]
  have k2 : keeps #[p, q, s, t] (0 + 1 + 1) = decide (s ≠ q) := by simp [keeps]
  have k3 : keeps #[p, q, s, t] (0 + 1 + 1 + 1) = decide (t ≠ s) := by simp [keeps]
  rw [h0, k0, k1, k2, k3]
  by_cases h1 : q = p <;> by_cases h2 : s = q <;> by_cases h3 : t = s <;> simp [h1, h2, h3]
theorem four_distinct (a b c d : Int) : (compact ([a, b, c, d].mergeSort fun x y => decide (x ≤ y))).length = (firsts4 a b c d).length := by
  have hp := List.mergeSort_perm [a, b, c, d] fun x y => decide (x ≤ y)
  have hs := List.pairwise_mergeSort (le := fun x y : Int => decide (x ≤ y)) (fun x y z h1 h2 => by simp at *; omega) (fun x y => by simp; omega) [a, b, c, d]
  have hl := hp.length_eq
  generalize ([a, b, c, d].mergeSort fun x y => decide (x ≤ y)) = L at hp hs hl
  match L, hl with
  | [p, q, s, t], _ =>
    rw [compact4]
    have hm := fun x => hp.mem_iff (a := x)
    simp only [List.pairwise_cons, decide_eq_true_eq, List.mem_cons, List.not_mem_nil, or_false] at hs
    have h1 := hs.1 q (.inl rfl)
    have h2 := hs.2.1 s (.inl rfl)
    have h3 := hs.2.2.1 t rfl
    refine List.Perm.length_eq ((List.perm_ext_iff_of_nodup ?_ (firsts4_nodup a b c d)).2 fun x => ?_)
    · by_cases e1 : q = p <;> by_cases e2 : s = q <;> by_cases e3 : t = s <;> simp [e1, e2, e3] <;> (repeat' apply And.intro) <;> (try split) <;> (try simp) <;> omega
    · rw [firsts4_mem]
      have := hm x
      simp only [List.mem_cons, List.not_mem_nil, or_false] at this
      rw [← this]
      by_cases e1 : q = p <;> by_cases e2 : s = q <;> by_cases e3 : t = s <;> simp [e1, e2, e3] <;> omega
end Go.Proofs.Ytdhnjecbdclmaaa
end
section
namespace Go.Proofs.Ytdhnjecbdclmaaa
open Go.RowKit Go.Shelf Go.Proofs.YtdhnjecbdclmaaaW.PrintWords Go.Proofs.YtdhnjecbdclmaaaW.PrintMore
set_option linter.unusedVariables false
set_option linter.unusedSimpArgs false
def meets (G : Nat → Nat → Int) (i j : Nat) : Nat := (firsts4 (G (i - 1) (j - 1)) (G (i - 1) j) (G i (j - 1)) (G i j)).length
def rowPts (G : Nat → Nat → Int) (many : Int) (i : Nat) : Nat → Nat → Nat
  | _, 0 => 0
  | j, d + 1 => (if ((meets G i j : Nat) : Int) = many then 1 else 0) + rowPts G many i (j + 1) d
def allPts (G : Nat → Nat → Int) (w : Nat) (many : Int) : Nat → Nat → Nat
  | _, 0 => 0
  | i, d + 1 => rowPts G many i 1 (w - 1) + allPts G w many (i + 1) d
theorem rowPts_le (G : Nat → Nat → Int) (many : Int) (i : Nat) : ∀ d j, rowPts G many i j d ≤ d := by
  intro d
  induction d with
  | zero => intro j; exact Nat.le_refl _
  | succ d ih => intro j; unfold rowPts; have := ih (j + 1); split <;> omega
theorem allPts_le (G : Nat → Nat → Int) (w : Nat) (many : Int) : ∀ d i, allPts G w many i d ≤ d * (w - 1) := by
  intro d
  induction d with
  | zero => intro i; exact Nat.zero_le _
  | succ d ih =>
    intro i
    unfold allPts
    have h1 := ih (i + 1)
    have h2 := rowPts_le G many i (w - 1) 1
    rw [Nat.succ_mul]; omega
theorem ws (j : Nat) (h : j ≤ 9000000) : wrap64 ((j : Int) + 1) = ((j + 1 : Nat) : Int) := wsucc h
theorem meets_l1 (L : List Int) (hL : L.length = 4) (i : Nat) (hi : i < 4) (c : Int) (R : Int) : ∀ (d j : Nat) (fl : Bool), j + d = i →
    (if (fl && (List.range' j d).all fun m => rd L (i : Int) != rd L (m : Int)) = true then Ev (fun k => L7.spec_l2Meets.l0 k L (wrap64 (c + 1)) ((i + 1 : Nat) : Int)) R else Ev (fun k => L7.spec_l2Meets.l0 k L c ((i + 1 : Nat) : Int)) R) →
    Ev (fun k => L7.spec_l2Meets.l1 k L c (i : Int) fl (j : Int)) R := by
  intro d
  induction d with
  | zero =>
    intro j fl hj h
    rw [List.range'_zero, List.all_nil, Bool.and_true] at h
    cases fl with
    | true =>
      rw [if_pos rfl] at h
      refine h.step fun k => ?_
      conv => lhs; rw [L7.spec_l2Meets.l1]
      rw [if_neg (by omega), if_pos rfl, ws i (by omega)]
    | false =>
      rw [if_neg (by simp)] at h
      refine h.step fun k => ?_
      conv => lhs; rw [L7.spec_l2Meets.l1]
      rw [if_neg (by omega), if_neg (by simp), ws i (by omega)]
  | succ d ih =>
    intro j fl hj h
    rw [List.range'_succ, List.all_cons] at h
    cases fl with
    | true =>
      rw [Bool.true_and] at h
      refine (ih (j + 1) (rd L (i : Int) != rd L (j : Int)) (by omega) h).step fun k => ?_
      conv => lhs; rw [L7.spec_l2Meets.l1]
      rw [if_pos (by omega), if_pos rfl, if_pos (by omega), if_pos (by omega), if_pos (by omega), if_pos (by omega), ws j (by omega)]
    | false =>
      rw [Bool.false_and] at h
      refine (ih (j + 1) false (by omega) (by rw [Bool.false_and]; exact h)).step fun k => ?_
      conv => lhs; rw [L7.spec_l2Meets.l1]
      rw [if_pos (by omega), if_neg (by simp), ws j (by omega)]
def nFirst (L : List Int) : Nat → Nat → Nat
  | _, 0 => 0
  | i, d + 1 => (if ((List.range' 0 i).all fun m => rd L (i : Int) != rd L (m : Int)) = true then 1 else 0) + nFirst L (i + 1) d
theorem meets_l0 (L : List Int) (hL : L.length = 4) : ∀ (d i c : Nat), i + d = 4 → c ≤ i → Ev (fun k => L7.spec_l2Meets.l0 k L (c : Int) (i : Int)) ((c + nFirst L i d : Nat) : Int) := by
  intro d
  induction d with
  | zero =>
    intro i c hi hc
    refine Ev.now fun k => ?_
    rw [L7.spec_l2Meets.l0, if_neg (by omega)]
    rfl
  | succ d ih =>
    intro i c hi hc
    refine Ev.step (g := fun k => L7.spec_l2Meets.l1 k L (c : Int) (i : Int) true ((0 : Nat) : Int)) (meets_l1 L hL i (by omega) c _ i 0 true (by omega) ?_) fun k => ?_
    · rw [Bool.true_and]
      unfold nFirst
      by_cases h : ((List.range' 0 i).all fun m => rd L (i : Int) != rd L (m : Int)) = true
      · rw [if_pos h, if_pos h, ws c (by omega)]
        have := ih (i + 1) (c + 1) (by omega) (by omega)
        rwa [show c + 1 + nFirst L (i + 1) d = c + (1 + nFirst L (i + 1) d) by omega] at this
      · rw [if_neg h, if_neg h, Nat.zero_add]
        exact ih (i + 1) c (by omega) (by omega)
    · conv => lhs; rw [L7.spec_l2Meets.l0]
      rw [if_pos (by omega)]
      try rfl
theorem nFirst4 (a b c d : Int) : nFirst [a, b, c, d] 0 4 = (firsts4 a b c d).length := by
  unfold firsts4
  have r0 : rd [a, b, c, d] ((0 : Nat) : Int) = a := rfl
  have r1 : rd [a, b, c, d] ((0 + 1 : Nat) : Int) = b := rfl
  have r2 : rd [a, b, c, d] ((0 + 1 + 1 : Nat) : Int) = c := rfl
  have r3 : rd [a, b, c, d] ((0 + 1 + 1 + 1 : Nat) : Int) = d := rfl
  unfold nFirst nFirst nFirst nFirst nFirst
  simp only [show List.range' 0 0 = [] from rfl, show List.range' 0 (0 + 1) = [0] from rfl, show List.range' 0 (0 + 1 + 1) = [0, 0 + 1] from rfl, show List.range' 0 (0 + 1 + 1 + 1) = [0, 0 + 1, 0 + 1 + 1] from rfl, List.all_nil, List.all_cons, r0, r1, r2, r3, Bool.and_true]
  by_cases h1 : b = a <;> by_cases h2 : c = a <;> by_cases h3 : c = b <;> by_cases h4 : d = a <;> by_cases h5 : d = b <;> by_cases h6 : d = c <;> simp [h1, h2, h3, h4, h5, h6]
theorem meets_f {p : List ByteArray} {h w : Nat} {G : Nat → Nat → Int} (t : TG p h w G) (i j : Nat) (hi : 1 ≤ i ∧ i < h) (hj : 1 ≤ j ∧ j < w) : Ev (fun k => L7.spec_l2Meets.f k p (i : Int) (j : Int)) (meets G i j : Int) := by
  have hh := t.high
  have hw := t.wide
  have hl := t.len
  have e1 : wrap64 ((i : Int) - 1) = ((i - 1 : Nat) : Int) := by unfold wrap64; omega
  have e2 : wrap64 ((j : Int) - 1) = ((j - 1 : Nat) : Int) := by unfold wrap64; omega
  have s1 := t.size (i - 1) (by omega)
  have s2 := t.size i (by omega)
  have c1 := t.cell (i - 1) (j - 1) (by omega) (by omega)
  have c2 := t.cell (i - 1) j (by omega) (by omega)
  have c3 := t.cell i (j - 1) (by omega) (by omega)
  have c4 := t.cell i j (by omega) (by omega)
  have h0 := meets_l0 [G (i - 1) (j - 1), G (i - 1) j, G i (j - 1), G i j] rfl 4 0 0 (by omega) (by omega)
  rw [Nat.zero_add, nFirst4] at h0
  refine h0.same fun k => ?_
  show L7.spec_l2Meets.f k p (i : Int) (j : Int) = _
  unfold L7.spec_l2Meets.f
  rw [e1, e2, s1, s2, c1, c2, c3, c4]
  rw [if_pos (by omega), if_pos (by omega), if_pos (by omega), if_pos (by omega), if_pos (by omega), if_pos (by omega), if_pos (by omega), if_pos (by omega), if_pos (by omega), if_pos (by omega)]
  rfl
theorem points_l1 {p : List ByteArray} {h w : Nat} {G : Nat → Nat → Int} (t : TG p h w G) (many : Int) (i : Nat) (hi : 1 ≤ i ∧ i < h) (R : Int) : ∀ (d j n : Nat), j + d = w → 1 ≤ j → n + d ≤ 1000 → Ev (fun k => L7.spec_l2Points.l0 k p many ((n + rowPts G many i j d : Nat) : Int) ((i + 1 : Nat) : Int)) R →
    Ev (fun k => L7.spec_l2Points.l1 k p many (n : Int) (i : Int) (j : Int)) R := by
  have hh := t.high
  have hw := t.wide
  have hl := t.len
  have s0 := t.size 0 (by omega)
  intro d
  induction d with
  | zero =>
    intro j n hj hj1 hn hR
    refine hR.step fun k => ?_
    conv => lhs; rw [L7.spec_l2Points.l1]
    rw [if_pos (by omega), if_neg (by rw [show (0 : Int) = ((0 : Nat) : Int) from rfl, s0]; omega), ws i (by omega)]
    rfl
  | succ d ih =>
    intro j n hj hj1 hn hR
    have hm := meets_f t i j hi ⟨hj1, by omega⟩
    unfold rowPts at hR
    have hj9 : wrap64 ((j : Int) + 1) = ((j + 1 : Nat) : Int) := ws j (by omega)
    have hn9 : wrap64 ((n : Int) + 1) = ((n + 1 : Nat) : Int) := ws n (by omega)
    by_cases he : ((meets G i j : Nat) : Int) = many
    · rw [if_pos he] at hR
      have := ih (j + 1) (n + 1) (by omega) (by omega) (by omega) (by rwa [show n + 1 + rowPts G many i (j + 1) d = n + (1 + rowPts G many i (j + 1) d) by omega])
      refine Ev.stepBind (F := fun k t111 => if t111 = many then (L7.spec_l2Points.l1 k p many (wrap64 ((n : Int) + 1)) (i : Int) (wrap64 ((j : Int) + 1))) else (L7.spec_l2Points.l1 k p many (n : Int) (i : Int) (wrap64 ((j : Int) + 1)))) hm (fun k => ?_) ?_
      · conv => lhs; rw [L7.spec_l2Points.l1]
        rw [if_pos (by omega), if_pos (by rw [show (0 : Int) = ((0 : Nat) : Int) from rfl, s0]; omega)]
      · simp only [if_pos he, hj9, hn9]
        exact this
    · rw [if_neg he, Nat.zero_add] at hR
      have := ih (j + 1) n (by omega) (by omega) (by omega) hR
      refine Ev.stepBind (F := fun k t111 => if t111 = many then (L7.spec_l2Points.l1 k p many (wrap64 ((n : Int) + 1)) (i : Int) (wrap64 ((j : Int) + 1))) else (L7.spec_l2Points.l1 k p many (n : Int) (i : Int) (wrap64 ((j : Int) + 1)))) hm (fun k => ?_) ?_
      · conv => lhs; rw [L7.spec_l2Points.l1]
        rw [if_pos (by omega), if_pos (by rw [show (0 : Int) = ((0 : Nat) : Int) from rfl, s0]; omega)]
      · simp only [if_neg he, hj9]
        exact this
theorem points_l0 {p : List ByteArray} {h w : Nat} {G : Nat → Nat → Int} (t : TG p h w G) (many : Int) : ∀ (d i n : Nat), i + d = h → 1 ≤ i → n ≤ 6 * i → Ev (fun k => L7.spec_l2Points.l0 k p many (n : Int) (i : Int)) ((n + allPts G w many i d : Nat) : Int) := by
  have hh := t.high
  have hw := t.wide
  have hl := t.len
  intro d
  induction d with
  | zero =>
    intro i n hi h1 hn
    refine Ev.now fun k => ?_
    rw [L7.spec_l2Points.l0, if_neg (by omega)]
    rfl
  | succ d ih =>
    intro i n hi h1 hn
    have hle := rowPts_le G many i (w - 1) 1
    have := ih (i + 1) (n + rowPts G many i 1 (w - 1)) (by omega) (by omega) (by omega)
    unfold allPts
    rw [Nat.add_assoc] at this
    have h9 := points_l1 t many i ⟨h1, by omega⟩ _ (w - 1) 1 n (by omega) (Nat.le_refl _) (by omega) this
    refine h9.step fun k => ?_
    conv => lhs; rw [L7.spec_l2Points.l0]
    rw [if_pos (by omega)]
    try rfl
theorem points_f {p : List ByteArray} {h w : Nat} {G : Nat → Nat → Int} (t : TG p h w G) (many : Int) : Ev (fun k => L7.spec_l2Points.f k p many) ((allPts G w many 1 (h - 1) : Nat) : Int) := by
  have hh := t.high
  have := points_l0 t many (h - 1) 1 0 (by omega) (Nat.le_refl _) (Nat.zero_le _)
  rw [Nat.zero_add] at this
  exact this
theorem meets_move (cl : Nat → Nat → Int) (i j : Nat) (hi : 1 ≤ i) (hj : 1 ≤ j) : meets (fun i j => 97 + cl (0 + i) (0 + j)) i j = meets cl i j := by
  unfold meets firsts4
  simp only [Nat.zero_add]
  have e : ∀ a b : Int, (97 + a ≠ 97 + b) ↔ a ≠ b := fun a b => by omega
  simp only [e]
  have l : ∀ (P : Prop) [Decidable P] (x y : Int), (if P then [x] else []).length = (if P then [y] else []).length := fun P _ x y => by split <;> rfl
  rw [List.length_append, List.length_append, List.length_append, List.length_append, List.length_append, List.length_append, l _ (97 + cl (i - 1) j) (cl (i - 1) j), l _ (97 + cl i (j - 1)) (cl i (j - 1)), l _ (97 + cl i j) (cl i j)]
  rfl
end Go.Proofs.Ytdhnjecbdclmaaa
end
section
namespace Go.Proofs.Ytdhnjecbdclmaaa
open Go.RowKit Go.Shelf Go.Proofs.YtdhnjecbdclmaaaW.PrintWords Go.Proofs.YtdhnjecbdclmaaaW.PrintMore
set_option linter.unusedVariables false
structure Flat (cl : Nat → Nat → Int) (boxes : List Box) (h wd : Nat) : Prop where
  high : 1 ≤ h ∧ h ≤ 6
  wide : 1 ≤ wd ∧ wd ≤ 6
  few : boxes.length ≤ 9
  num : ∀ i j, i < h → j < wd → ∃ k, k < boxes.length ∧ cl i j = (k : Int)
  box : ∀ k (hk : k < boxes.length), ∃ a b c d : Nat, boxes[k] = natB a b c d ∧ 1 ≤ c ∧ 1 ≤ d ∧ a + c ≤ h ∧ b + d ≤ wd ∧ ∀ i j, i < h → j < wd → (cl i j = (k : Int) ↔ (a ≤ i ∧ i < a + c) ∧ (b ≤ j ∧ j < b + d))
def InR (r c ph pw i j : Nat) : Prop := (r ≤ i ∧ i < r + ph) ∧ (c ≤ j ∧ j < c + pw)
structure Whole (cl : Nat → Nat → Int) (h wd r c ph pw : Nat) : Prop where
  some : 1 ≤ ph ∧ 1 ≤ pw
  row : r + ph ≤ h
  col : c + pw ≤ wd
  all : ∀ i j i' j', InR r c ph pw i j → i' < h → j' < wd → cl i j = cl i' j' → InR r c ph pw i' j'
def gridOf (cl : Nat → Nat → Int) (r c : Nat) : Nat → Nat → Int := fun i j => 97 + cl (r + i) (c + j)
end Go.Proofs.Ytdhnjecbdclmaaa
end
section
namespace Go.Proofs.Ytdhnjecbdclmaaa
open Go.RowKit Go.Shelf Go.Proofs.YtdhnjecbdclmaaaW.PrintWords Go.Proofs.YtdhnjecbdclmaaaW.PrintMore
set_option linter.unusedVariables false
set_option linter.unusedSimpArgs false
theorem sumTo_same {f g : Nat → Nat} : ∀ {n : Nat}, (∀ k, k < n → f k = g k) → sumTo f n = sumTo g n := by
  intro n
  induction n with
  | zero => intro _; rfl
  | succ n ih =>
    intro h
    unfold sumTo
    rw [ih fun k hk => h k (by omega), h n (by omega)]
theorem sumTo_head (f : Nat → Nat) (n : Nat) : sumTo f (n + 1) = f 0 + sumTo (fun k => f (k + 1)) n := by
  induction n with
  | zero => show 0 + f 0 = f 0 + 0; omega
  | succ n ih =>
    rw [show sumTo f (n + 1 + 1) = sumTo f (n + 1) + f (n + 1) from rfl, ih]
    show _ = f 0 + (sumTo (fun k => f (k + 1)) n + f (n + 1))
    omega
def ptI (G : Nat → Nat → Int) (many : Int) (i j : Nat) : Nat := if ((meets G i j : Nat) : Int) = many then 1 else 0
theorem rowPts_sum (G : Nat → Nat → Int) (many : Int) (i : Nat) : ∀ d j, rowPts G many i j d = sumTo (fun x => ptI G many i (j + x)) d := by
  intro d
  induction d with
  | zero => intro j; rfl
  | succ d ih =>
    intro j
    rw [sumTo_head]
    unfold rowPts
    rw [ih (j + 1)]
    show ptI G many i j + _ = _
    congr 1
    exact sumTo_same fun k _ => by rw [show j + 1 + k = j + (k + 1) by omega]
theorem allPts_sum (G : Nat → Nat → Int) (w : Nat) (many : Int) : ∀ d i, allPts G w many i d = sumTo (fun y => sumTo (fun x => ptI G many (i + y) (1 + x)) (w - 1)) d := by
  intro d
  induction d with
  | zero => intro i; rfl
  | succ d ih =>
    intro i
    rw [sumTo_head]
    unfold allPts
    rw [ih (i + 1), rowPts_sum]
    congr 1
    exact sumTo_same fun k _ => by rw [show i + 1 + k = i + (k + 1) by omega]
def x2 (p q : Bool) : Nat := if p = q then 0 else 1
def b1 (p : Bool) : Nat := if p then 1 else 0
end Go.Proofs.Ytdhnjecbdclmaaa
end
section
namespace Go.Proofs.Ytdhnjecbdclmaaa
open Go.RowKit Go.Shelf Go.Proofs.YtdhnjecbdclmaaaW.PrintWords Go.Proofs.YtdhnjecbdclmaaaW.PrintMore
set_option linter.unusedVariables false
set_option linter.unusedSimpArgs false
def starts (df : Nat → Bool) : Bool → Nat → Nat → Nat
  | _, _, 0 => 0
  | p, i, d + 1 => b1 (df i && !p) + starts df (df i) (i + 1) d
def turns_ (df : Nat → Bool) : Bool → Nat → Nat → Nat
  | _, _, 0 => 0
  | p, i, d + 1 => x2 p (df i) + turns_ df (df i) (i + 1) d
def lastB (df : Nat → Bool) (p : Bool) (i d : Nat) : Bool := if d = 0 then p else df (i + d - 1)
theorem runs_len (df : Nat → Bool) : ∀ (d i : Nat) (o : Option Nat), (runs df o i d).length = starts df o.isSome i d + b1 o.isSome := by
  intro d
  induction d with
  | zero => intro i o; cases o <;> rfl
  | succ d ih =>
    intro i o
    unfold starts
    cases o with
    | none =>
      unfold runs
      by_cases h : df i = true
      · rw [if_pos h, ih, h]; simp [b1]; omega
      · rw [if_neg h, ih]
        have : df i = false := by simpa using h
        rw [this]; simp [b1]
    | some f =>
      unfold runs
      by_cases h : df i = true
      · rw [if_pos h, ih, h]; simp [b1]
      · rw [if_neg h, List.length_cons, ih]
        have : df i = false := by simpa using h
        rw [this]; simp [b1]
theorem last_step (df : Nat → Bool) (p : Bool) (i d : Nat) : lastB df (df i) (i + 1) d = lastB df p i (d + 1) := by
  unfold lastB
  rw [if_neg (Nat.succ_ne_zero d)]
  by_cases h : d = 0
  · subst h; rw [if_pos rfl]; rfl
  · rw [if_neg h, show i + 1 + d - 1 = i + (d + 1) - 1 by omega]
theorem starts_turns (df : Nat → Bool) : ∀ (d i : Nat) (p : Bool), 2 * starts df p i d + b1 p = turns_ df p i d + b1 (lastB df p i d) := by
  intro d
  induction d with
  | zero => intro i p; show 2 * 0 + b1 p = 0 + b1 p; omega
  | succ d ih =>
    intro i p
    have h := ih (i + 1) (df i)
    rw [last_step df p] at h
    unfold starts turns_
    have e : 2 * b1 (df i && !p) + b1 p = x2 p (df i) + b1 (df i) := by cases p <;> cases df i <;> rfl
    omega
end Go.Proofs.Ytdhnjecbdclmaaa
end
section
namespace Go.Proofs.Ytdhnjecbdclmaaa
open Go.RowKit Go.Shelf Go.Proofs.YtdhnjecbdclmaaaW.PrintWords Go.Proofs.YtdhnjecbdclmaaaW.PrintMore
set_option linter.unusedVariables false
set_option linter.unusedSimpArgs false
end Go.Proofs.Ytdhnjecbdclmaaa
end
section
namespace Go.Proofs.Ytdhnjecbdclmaaa
open Go.RowKit Go.Shelf Go.Proofs.YtdhnjecbdclmaaaW.PrintWords Go.Proofs.YtdhnjecbdclmaaaW.PrintMore
set_option linter.unusedVariables false
set_option linter.unusedSimpArgs false
def bump {α : Type} (f : α → α) : List α → List α
  | [] => []
  | [x] => [f x]
  | x :: y :: l => x :: bump f (y :: l)
theorem bump_cons {α : Type} (f : α → α) (x : α) {l : List α} (h : l ≠ []) : bump f (x :: l) = x :: bump f l := by
  cases l with
  | nil => exact absurd rfl h
  | cons y l => rfl
theorem bump_append {α : Type} (f : α → α) {l : List α} (h : l ≠ []) : ∀ a, bump f (a ++ l) = a ++ bump f l := by
  intro a
  induction a with
  | nil => rfl
  | cons x a ih => rw [List.cons_append, bump_cons f x (by simp [h]), ih]; rfl
theorem bump_map {α β : Type} (f : α → α) (g : β → β) (e : α → β) (hg : ∀ x, e (f x) = g (e x)) : ∀ l, (bump f l).map e = bump g (l.map e)
  | [] => rfl
  | [x] => by show [e (f x)] = [g (e x)]; rw [hg]
  | x :: y :: l => by
    rw [bump_cons f x (by simp), List.map_cons, bump_map f g e hg (y :: l)]
    exact (bump_cons g (e x) (l := (y :: l).map e) (by simp)).symm
theorem bump_last {α : Type} (f : α → α) (a : List α) (x : α) : bump f (a ++ [x]) = a ++ [f x] := bump_append f (by simp) a
theorem bump_len {α : Type} (f : α → α) : ∀ l : List α, (bump f l).length = l.length
  | [] => rfl
  | [x] => rfl
  | x :: y :: l => by rw [bump_cons f x (by simp), List.length_cons, bump_len f (y :: l)]; rfl
def longer (x : Nat × Nat) : Nat × Nat := (x.1, x.2 + 1)
theorem runs_open (df : Nat → Bool) (d i : Nat) (h : lastB df false i d = true) : runs df none i d ≠ [] := by
  intro e
  have h1 := runs_len df d i none
  rw [e] at h1
  have h2 := starts_turns df d i false
  rw [h] at h2
  have h3 : (0 : Nat) = starts df false i d + 0 := h1
  have h4 : 2 * starts df false i d + 0 = turns_ df false i d + 1 := h2
  omega
theorem runs_more (df : Nat → Bool) : ∀ (d i : Nat) (o : Option Nat), (∀ f, o = some f → f ≤ i) → runs df o i (d + 1) = if df (i + d) = true then (if lastB df o.isSome i d = true then bump longer (runs df o i d) else runs df o i d ++ [(i + d, 1)]) else runs df o i d := by
  intro d
  induction d with
  | zero =>
    intro i o ho
    cases o with
    | none =>
      unfold runs
      by_cases h : df i = true
      · rw [if_pos h, if_pos (show df (i + 0) = true from h), if_neg (by show ¬ (lastB df false i 0 = true); unfold lastB; simp)]
        show [(i, i + 1 - i)] = [] ++ [(i, 1)]
        rw [show i + 1 - i = 1 by omega]; rfl
      · rw [if_neg h, if_neg (show ¬ df (i + 0) = true from h)]; rfl
    | some f =>
      have := ho f rfl
      unfold runs
      by_cases h : df i = true
      · rw [if_pos h, if_pos (show df (i + 0) = true from h), if_pos (by show lastB df true i 0 = true; rfl)]
        show [(f, i + 1 - f)] = [(f, i - f + 1)]
        rw [show i + 1 - f = i - f + 1 by omega]
      · rw [if_neg h, if_neg (show ¬ df (i + 0) = true from h)]
        rfl
  | succ d ih =>
    intro i o ho
    have hl := last_step df o.isSome i d
    rw [← hl, show i + (d + 1) = i + 1 + d by omega]
    cases o with
    | none =>
      rw [show runs df none i (d + 1 + 1) = if df i = true then runs df (some i) (i + 1) (d + 1) else runs df none (i + 1) (d + 1) from rfl]
      rw [show runs df none i (d + 1) = if df i = true then runs df (some i) (i + 1) d else runs df none (i + 1) d from rfl]
      by_cases h : df i = true
      · rw [if_pos h, if_pos h, ih (i + 1) (some i) (fun f e => by injection e with e; omega), h]
        rfl
      · have hf : df i = false := by simpa using h
        rw [if_neg h, if_neg h, ih (i + 1) none (fun f e => by cases e), hf]
        rfl
    | some f =>
      have := ho f rfl
      rw [show runs df (some f) i (d + 1 + 1) = if df i = true then runs df (some f) (i + 1) (d + 1) else (f, i - f) :: runs df none (i + 1) (d + 1) from rfl]
      rw [show runs df (some f) i (d + 1) = if df i = true then runs df (some f) (i + 1) d else (f, i - f) :: runs df none (i + 1) d from rfl]
      by_cases h : df i = true
      · rw [if_pos h, if_pos h, ih (i + 1) (some f) (fun f' e => by injection e with e; omega), h]
        rfl
      · have hf : df i = false := by simpa using h
        rw [if_neg h, if_neg h, ih (i + 1) none (fun f e => by cases e), hf]
        show _ :: (if _ then (if lastB df false (i + 1) d = true then _ else _) else _) = if _ then (if lastB df false (i + 1) d = true then _ else _) else _
        by_cases h1 : df (i + 1 + d) = true
        · rw [if_pos h1, if_pos h1]
          by_cases h2 : lastB df false (i + 1) d = true
          · rw [if_pos h2, if_pos h2, bump_cons longer _ (runs_open df d (i + 1) h2)]
          · rw [if_neg h2, if_neg h2]; rfl
        · rw [if_neg h1, if_neg h1]
def openB (df : Nat → Bool) (n : Nat) : Bool := if n = 0 then false else df (n - 1)
theorem runs_snoc (df : Nat → Bool) (n : Nat) : runs df none 0 (n + 1) = if df n = true then (if openB df n = true then bump longer (runs df none 0 n) else runs df none 0 n ++ [(n, 1)]) else runs df none 0 n := by
  have := runs_more df n 0 none (fun f e => by cases e)
  rw [Nat.zero_add] at this
  rw [this]
  have e : lastB df false 0 n = openB df n := by unfold lastB openB; rw [Nat.zero_add]
  show (if df n = true then (if lastB df false 0 n = true then _ else _) else _) = _
  rw [e]
theorem runs_ne (df : Nat → Bool) (n : Nat) (h : openB df n = true) : runs df none 0 n ≠ [] := runs_open df n 0 (by unfold lastB; rw [Nat.zero_add]; exact h)
abbrev WallT := Bool × Nat × Nat × Nat
def dfL (cl : Nat → Nat → Int) (level : Bool) (line at_ : Nat) : Bool := (sidesL cl level line at_).1 != (sidesL cl level line at_).2
def wallsRow (cl : Nat → Nat → Int) (level : Bool) (line n : Nat) : List WallT := (runs (dfL cl level line) none 0 n).map fun x => (level, line, x.1, x.2)
def wallsFrom (cl : Nat → Nat → Int) (level : Bool) (places : Nat) : Nat → List WallT
  | 0 => []
  | d + 1 => wallsFrom cl level places d ++ wallsRow cl level (1 + d) places
def wallsL (cl : Nat → Nat → Int) (h wd : Nat) : List WallT := wallsFrom cl false h (wd - 1) ++ wallsFrom cl true wd (h - 1)
def longerW (x : WallT) : WallT := (x.1, x.2.1, x.2.2.1, x.2.2.2 + 1)
theorem wallsRow_snoc (cl : Nat → Nat → Int) (level : Bool) (line n : Nat) (A : List WallT) : A ++ wallsRow cl level line (n + 1) = if dfL cl level line n = true then (if openB (dfL cl level line) n = true then bump longerW (A ++ wallsRow cl level line n) else (A ++ wallsRow cl level line n) ++ [(level, line, n, 1)]) else A ++ wallsRow cl level line n := by
  unfold wallsRow
  rw [runs_snoc]
  by_cases h1 : dfL cl level line n = true
  · rw [if_pos h1, if_pos h1]
    by_cases h2 : openB (dfL cl level line) n = true
    · rw [if_pos h2, if_pos h2, bump_map longer longerW _ (fun _ => rfl), bump_append longerW (by
        intro e
        exact runs_ne _ n h2 (List.map_eq_nil_iff.1 e))]
    · rw [if_neg h2, if_neg h2, List.map_append, List.append_assoc]; rfl
  · rw [if_neg h1, if_neg h1]
theorem wallsRow_len (cl : Nat → Nat → Int) (level : Bool) (line : Nat) : ∀ n, (wallsRow cl level line n).length ≤ n := by
  intro n
  induction n with
  | zero => exact Nat.le_refl _
  | succ n ih =>
    have := wallsRow_snoc cl level line n []
    rw [List.nil_append, List.nil_append] at this
    rw [this]
    split
    · split
      · rw [bump_len]; omega
      · rw [List.length_append]; show _ + 1 ≤ _; omega
    · omega
theorem wallsFrom_len (cl : Nat → Nat → Int) (level : Bool) (places : Nat) : ∀ d, (wallsFrom cl level places d).length ≤ d * places := by
  intro d
  induction d with
  | zero => exact Nat.zero_le _
  | succ d ih =>
    unfold wallsFrom
    rw [List.length_append, Nat.succ_mul]
    have := wallsRow_len cl level (1 + d) places
    omega
theorem runs_in (df : Nat → Bool) : ∀ (d i : Nat) (o : Option Nat), (∀ f, o = some f → f < i) → ∀ x ∈ runs df o i d, 1 ≤ x.2 ∧ x.1 + x.2 ≤ i + d ∧ (i ≤ x.1 ∨ o = some x.1) ∧ (∀ k, i ≤ k → x.1 ≤ k → k < x.1 + x.2 → df k = true) := by
  intro d
  induction d with
  | zero =>
    intro i o ho x hx
    cases o with
    | none => cases hx
    | some f =>
      have := ho f rfl
      obtain rfl := List.mem_singleton.1 hx
      refine ⟨by show 1 ≤ i - f; omega, by show f + (i - f) ≤ i + 0; omega, .inr rfl, fun k k0 k1 k2 => ?_⟩
      have : k < f + (i - f) := k2
      omega
  | succ d ih =>
    intro i o ho x hx
    cases o with
    | none =>
      unfold runs at hx
      by_cases h : df i = true
      · rw [if_pos h] at hx
        obtain ⟨a, b, c, e⟩ := ih (i + 1) (some i) (fun f e => by injection e with e; omega) x hx
        have c' : i ≤ x.1 := by
          rcases c with c | c
          · omega
          · injection c with c; omega
        refine ⟨a, by omega, .inl c', fun k k0 k1 k2 => ?_⟩
        by_cases hk : k = i
        · subst hk; exact h
        · exact e k (by omega) k1 k2
      · rw [if_neg h] at hx
        obtain ⟨a, b, c, e⟩ := ih (i + 1) none (fun f e => by cases e) x hx
        have c' : i + 1 ≤ x.1 := by
          rcases c with c | c
          · exact c
          · cases c
        exact ⟨a, by omega, .inl (by omega), fun k k0 k1 k2 => e k (by omega) k1 k2⟩
    | some f =>
      have hf := ho f rfl
      unfold runs at hx
      by_cases h : df i = true
      · rw [if_pos h] at hx
        obtain ⟨a, b, c, e⟩ := ih (i + 1) (some f) (fun f' e => by injection e with e; omega) x hx
        refine ⟨a, by omega, ?_, fun k k0 k1 k2 => ?_⟩
        · rcases c with c | c
          · exact .inl (by omega)
          · exact .inr c
        · by_cases hk : k = i
          · subst hk; exact h
          · exact e k (by omega) k1 k2
      · rw [if_neg h] at hx
        rcases List.mem_cons.1 hx with rfl | hx
        · refine ⟨by show 1 ≤ i - f; omega, by show f + (i - f) ≤ _; omega, .inr rfl, fun k k0 k1 k2 => ?_⟩
          have : k < f + (i - f) := k2
          omega
        · obtain ⟨a, b, c, e⟩ := ih (i + 1) none (fun f e => by cases e) x hx
          have c' : i + 1 ≤ x.1 := by
            rcases c with c | c
            · exact c
            · cases c
          exact ⟨a, by omega, .inl (by omega), fun k k0 k1 k2 => e k (by omega) k1 k2⟩
theorem wallsRow_in {cl : Nat → Nat → Int} {level : Bool} {line n : Nat} {x : WallT} (h : x ∈ wallsRow cl level line n) : x.1 = level ∧ x.2.1 = line ∧ 1 ≤ x.2.2.2 ∧ x.2.2.1 + x.2.2.2 ≤ n ∧ ∀ k, x.2.2.1 ≤ k → k < x.2.2.1 + x.2.2.2 → dfL cl level line k = true := by
  obtain ⟨y, hy, rfl⟩ := List.mem_map.1 h
  obtain ⟨a, b, c, e⟩ := runs_in _ n 0 none (fun f e => by cases e) y hy
  exact ⟨rfl, rfl, a, by rw [Nat.zero_add] at b; exact b, fun k k1 k2 => e k (Nat.zero_le _) k1 k2⟩
theorem wallsFrom_in {cl : Nat → Nat → Int} {level : Bool} {places : Nat} : ∀ {d : Nat} {x : WallT}, x ∈ wallsFrom cl level places d → x.1 = level ∧ (1 ≤ x.2.1 ∧ x.2.1 < 1 + d) ∧ 1 ≤ x.2.2.2 ∧ x.2.2.1 + x.2.2.2 ≤ places ∧ ∀ k, x.2.2.1 ≤ k → k < x.2.2.1 + x.2.2.2 → dfL cl level x.2.1 k = true := by
  intro d
  induction d with
  | zero => intro x h; cases h
  | succ d ih =>
    intro x h
    unfold wallsFrom at h
    rcases List.mem_append.1 h with h | h
    · obtain ⟨a, b, c, e⟩ := ih h
      exact ⟨a, ⟨b.1, by omega⟩, c, e⟩
    · obtain ⟨a, b, c, e, g⟩ := wallsRow_in h
      exact ⟨a, ⟨by omega, by omega⟩, c, e, by rw [b]; exact g⟩
theorem wallsL_in {cl : Nat → Nat → Int} {h wd : Nat} {x : WallT} (hx : x ∈ wallsL cl h wd) : (1 ≤ x.2.1 ∧ x.2.1 < if x.1 then h else wd) ∧ 1 ≤ x.2.2.2 ∧ (x.2.2.1 + x.2.2.2 ≤ if x.1 then wd else h) ∧ ∀ k, x.2.2.1 ≤ k → k < x.2.2.1 + x.2.2.2 → dfL cl x.1 x.2.1 k = true := by
  unfold wallsL at hx
  rcases List.mem_append.1 hx with hx | hx
  · obtain ⟨a, b, c, e, g⟩ := wallsFrom_in hx
    rw [a]
    exact ⟨⟨b.1, by show x.2.1 < wd; omega⟩, c, e, g⟩
  · obtain ⟨a, b, c, e, g⟩ := wallsFrom_in hx
    rw [a]
    exact ⟨⟨b.1, by show x.2.1 < h; omega⟩, c, e, g⟩
theorem wallsL_len (cl : Nat → Nat → Int) {h wd : Nat} (hh : h ≤ 6) (hw : wd ≤ 6) : (wallsL cl h wd).length ≤ 72 := by
  unfold wallsL
  rw [List.length_append]
  have h1 := wallsFrom_len cl false h (wd - 1)
  have h2 := wallsFrom_len cl true wd (h - 1)
  have h3 : (wd - 1) * h ≤ 6 * 6 := Nat.mul_le_mul (by omega) hh
  have h4 : (h - 1) * wd ≤ 6 * 6 := Nat.mul_le_mul (by omega) hw
  omega
end Go.Proofs.Ytdhnjecbdclmaaa
end
