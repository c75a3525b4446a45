/- Texts of this claim's, joined by a program: AFourD, ASpecPoints, AShelf2, APoints, APtsP, AWallX. -/
import Derived.Lib.SlicesCompact
import Derived.Test.YtbpppchkgjcahaaKASpecCutB
import Derived.Test.YtbpppchkgjcahaaKAL7x
import Derived.Test.YtbpppchkgjcahaaKAShelfM
import Derived.Shelf.Strings.Builder1
import Derived.Shelf.Small.Wraps
import Derived.Shelf.Strings.BuilderF
import Derived.Shelf.Strings.BuilderK
import Derived.Shelf.Strings.Search1
import Derived.Shelf.Strings.Search2
import Derived.Shelf.Strings.Search3
import Derived.Shelf.Strings.Count
import Derived.Shelf.LaysM
import Derived.Shelf.Strings.Shaped
import Derived.Shelf.Sort.Plain
import Derived.Shelf.Bits.Mul64
import Derived.Shelf.Strings.BuilderCap
import Derived.Shelf.Slices.Turned
import Derived.Shelf.Slices.Equal
import Derived.Ground.Names2Prog
import Derived.Shelf.Slices.CompactI
import Derived.Shelf.Slices.SearchI
import Derived.Shelf.Slices.Empties2
import Derived.Test.YtbpppchkgjcahaaProg
import Derived.Test.YtbpppchkgjcahaaKAFloorRM
import Derived.Sort.OwnSortedInts
import Derived.Test.YtbpppchkgjcahaaKAFlat
import Derived.Test.YtbpppchkgjcahaaKASpecTextM
section
namespace Go.Proofs.Ytbpppchkgjcahaa
open Go.Lib (compact compactUpTo compactUpTo_succ keeps)
def firsts4 (a b c d : Int) : List Int := [a] ++ (if b ≠ a then [b] else []) ++ (if c ≠ a ∧ c ≠ b then [c] else []) ++ (if d ≠ a ∧ d ≠ b ∧ d ≠ c then [d] else [])
theorem firsts4_mem (a b c d x : Int) : x ∈ firsts4 a b c d ↔ x = a ∨ x = b ∨ x = c ∨ x = d := by
  unfold firsts4
  by_cases h1 : b = a <;> by_cases h2 : c = a <;> by_cases h3 : c = b <;> by_cases h4 : d = a <;> by_cases h5 : d = b <;> by_cases h6 : d = c <;> simp [h1, h2, h3, h4, h5, h6] <;> omega
theorem firsts4_nodup (a b c d : Int) : (firsts4 a b c d).Nodup := by
  unfold firsts4
  by_cases h1 : b = a <;> by_cases h2 : c = a <;> by_cases h3 : c = b <;> by_cases h4 : d = a <;> by_cases h5 : d = b <;> by_cases h6 : d = c <;> simp [h1, h2, h3, h4, h5, h6] <;> omega
theorem compact4 (p q s t : Int) : compact [p, q, s, t] = [p] ++ (if q ≠ p then [q] else []) ++ (if s ≠ q then [s] else []) ++ (if t ≠ s then [t] else []) := by
  show compactUpTo #[p, q, s, t] (0 + 1 + 1 + 1 + 1) = _
  rw [compactUpTo_succ, compactUpTo_succ, compactUpTo_succ, compactUpTo_succ]
  have h0 : compactUpTo #[p, q, s, t] 0 = [] := rfl
  have k0 : keeps #[p, q, s, t] 0 = true := by simp [keeps]
  have k1 : keeps #[p, q, s, t] (0 + 1) = decide (q ≠ p) := by simp [keeps]
  have k2 : keeps #[p, q, s, t] (0 + 1 + 1) = decide (s ≠ q) := by simp [keeps]
  have k3 : keeps #[p, q, s, t] (0 + 1 + 1 + 1) = decide (t ≠ s) := by simp [keeps]
  rw [h0, k0, k1, k2, k3]
  by_cases h1 : q = p <;> by_cases h2 : s = q <;> by_cases h3 : t = s <;> simp [h1, h2, h3]
theorem four_distinct (a b c d : Int) : (compact ([a, b, c, d].mergeSort fun x y => decide (x ≤ y))).length = (firsts4 a b c d).length := by
  have hp := List.mergeSort_perm [a, b, c, d] fun x y => decide (x ≤ y)
  have hs := List.pairwise_mergeSort (le := fun x y : Int => decide (x ≤ y)) (fun x y z h1 h2 => by simp at *; omega) (fun x y => by simp; omega) [a, b, c, d]
  have hl := hp.length_eq
  generalize ([a, b, c, d].mergeSort fun x y => decide (x ≤ y)) = L at hp hs hl
  match L, hl with
  | [p, q, s, t], _ =>
    rw [compact4]
    have hm := fun x => hp.mem_iff (a := x)
    simp only [List.pairwise_cons, decide_eq_true_eq, List.mem_cons, List.not_mem_nil, or_false] at hs
    have h1 := hs.1 q (.inl rfl)
    have h2 := hs.2.1 s (.inl rfl)
    have h3 := hs.2.2.1 t rfl
    refine List.Perm.length_eq ((List.perm_ext_iff_of_nodup ?_ (firsts4_nodup a b c d)).2 fun x => ?_)
    · by_cases e1 : q = p <;> by_cases e2 : s = q <;> by_cases e3 : t = s <;> simp [e1, e2, e3] <;> (repeat' apply And.intro) <;> (try split) <;> (try simp) <;> omega
    · rw [firsts4_mem]
      have := hm x
      simp only [List.mem_cons, List.not_mem_nil, or_false] at this
      rw [← this]
      by_cases e1 : q = p <;> by_cases e2 : s = q <;> by_cases e3 : t = s <;> simp [e1, e2, e3] <;> omega
end Go.Proofs.Ytbpppchkgjcahaa
end
section
namespace Go.Proofs.Ytbpppchkgjcahaa
open Go.RowKit Go.Shelf Go.Proofs.YtbpppchkgjcahaaW.PrintWords Go.Proofs.YtbpppchkgjcahaaW.PrintMore
set_option linter.unusedVariables false
set_option linter.unusedSimpArgs false
def meets (G : Nat → Nat → Int) (i j : Nat) : Nat := (firsts4 (G (i - 1) (j - 1)) (G (i - 1) j) (G i (j - 1)) (G i j)).length
def rowPts (G : Nat → Nat → Int) (many : Int) (i : Nat) : Nat → Nat → Nat
  | _, 0 => 0
  | j, d + 1 => (if ((meets G i j : Nat) : Int) = many then 1 else 0) + rowPts G many i (j + 1) d
def allPts (G : Nat → Nat → Int) (w : Nat) (many : Int) : Nat → Nat → Nat
  | _, 0 => 0
  | i, d + 1 => rowPts G many i 1 (w - 1) + allPts G w many (i + 1) d
theorem rowPts_le (G : Nat → Nat → Int) (many : Int) (i : Nat) : ∀ d j, rowPts G many i j d ≤ d := by
  intro d
  induction d with
  | zero => intro j; exact Nat.le_refl _
  | succ d ih => intro j; unfold rowPts; have := ih (j + 1); split <;> omega
theorem allPts_le (G : Nat → Nat → Int) (w : Nat) (many : Int) : ∀ d i, allPts G w many i d ≤ d * (w - 1) := by
  intro d
  induction d with
  | zero => intro i; exact Nat.zero_le _
  | succ d ih =>
    intro i
    unfold allPts
    have h1 := ih (i + 1)
    have h2 := rowPts_le G many i (w - 1) 1
    rw [Nat.succ_mul]; omega
theorem ws (j : Nat) (h : j ≤ 9000000) : wrap64 ((j : Int) + 1) = ((j + 1 : Nat) : Int) := wsucc h
theorem meets_l1 (L : List Int) (hL : L.length = 4) (i : Nat) (hi : i < 4) (c : Int) (R : Int) : ∀ (d j : Nat) (fl : Bool), j + d = i →
    (if (fl && (List.range' j d).all fun m => rd L (i : Int) != rd L (m : Int)) = true then Ev (fun k => L7.spec_l2Meets.l0 k L (wrap64 (c + 1)) ((i + 1 : Nat) : Int)) R else Ev (fun k => L7.spec_l2Meets.l0 k L c ((i + 1 : Nat) : Int)) R) →
    Ev (fun k => L7.spec_l2Meets.l1 k L c (i : Int) fl (j : Int)) R := by
  intro d
  induction d with
  | zero =>
    intro j fl hj h
    rw [List.range'_zero, List.all_nil, Bool.and_true] at h
    cases fl with
    | true =>
      rw [if_pos rfl] at h
      refine h.step fun k => ?_
      conv => lhs; rw [L7.spec_l2Meets.l1]
      rw [if_neg (by omega), if_pos rfl, ws i (by omega)]
    | false =>
      rw [if_neg (by simp)] at h
      refine h.step fun k => ?_
      conv => lhs; rw [L7.spec_l2Meets.l1]
      rw [if_neg (by omega), if_neg (by simp), ws i (by omega)]
  | succ d ih =>
    intro j fl hj h
    rw [List.range'_succ, List.all_cons] at h
    cases fl with
    | true =>
      rw [Bool.true_and] at h
      refine (ih (j + 1) (rd L (i : Int) != rd L (j : Int)) (by omega) h).step fun k => ?_
      conv => lhs; rw [L7.spec_l2Meets.l1]
      rw [if_pos (by omega), if_pos rfl, if_pos (by omega), if_pos (by omega), if_pos (by omega), if_pos (by omega), ws j (by omega)]
    | false =>
      rw [Bool.false_and] at h
      refine (ih (j + 1) false (by omega) (by rw [Bool.false_and]; exact h)).step fun k => ?_
      conv => lhs; rw [L7.spec_l2Meets.l1]
      rw [if_pos (by omega), if_neg (by simp), ws j (by omega)]
def nFirst (L : List Int) : Nat → Nat → Nat
  | _, 0 => 0
  | i, d + 1 => (if ((List.range' 0 i).all fun m => rd L (i : Int) != rd L (m : Int)) = true then 1 else 0) + nFirst L (i + 1) d
theorem meets_l0 (L : List Int) (hL : L.length = 4) : ∀ (d i c : Nat), i + d = 4 → c ≤ i → Ev (fun k => L7.spec_l2Meets.l0 k L (c : Int) (i : Int)) ((c + nFirst L i d : Nat) : Int) := by
  intro d
  induction d with
  | zero =>
    intro i c hi hc
    refine Ev.now fun k => ?_
    rw [L7.spec_l2Meets.l0, if_neg (by omega)]
    rfl
  | succ d ih =>
    intro i c hi hc
    refine Ev.step (g := fun k => L7.spec_l2Meets.l1 k L (c : Int) (i : Int) true ((0 : Nat) : Int)) (meets_l1 L hL i (by omega) c _ i 0 true (by omega) ?_) fun k => ?_
    · rw [Bool.true_and]
      unfold nFirst
      by_cases h : ((List.range' 0 i).all fun m => rd L (i : Int) != rd L (m : Int)) = true
      · rw [if_pos h, if_pos h, ws c (by omega)]
        have := ih (i + 1) (c + 1) (by omega) (by omega)
        rwa [show c + 1 + nFirst L (i + 1) d = c + (1 + nFirst L (i + 1) d) by omega] at this
      · rw [if_neg h, if_neg h, Nat.zero_add]
        exact ih (i + 1) c (by omega) (by omega)
    · conv => lhs; rw [L7.spec_l2Meets.l0]
      rw [if_pos (by omega)]
      try rfl
theorem nFirst4 (a b c d : Int) : nFirst [a, b, c, d] 0 4 = (firsts4 a b c d).length := by
  unfold firsts4
  have r0 : rd [a, b, c, d] ((0 : Nat) : Int) = a := rfl
  have r1 : rd [a, b, c, d] ((0 + 1 : Nat) : Int) = b := rfl
  have r2 : rd [a, b, c, d] ((0 + 1 + 1 : Nat) : Int) = c := rfl
  have r3 : rd [a, b, c, d] ((0 + 1 + 1 + 1 : Nat) : Int) = d := rfl
  unfold nFirst nFirst nFirst nFirst nFirst
  simp only [show List.range' 0 0 = [] from rfl, show List.range' 0 (0 + 1) = [0] from rfl, show List.range' 0 (0 + 1 + 1) = [0, 0 + 1] from rfl, show List.range' 0 (0 + 1 + 1 + 1) = [0, 0 + 1, 0 + 1 + 1] from rfl, List.all_nil, List.all_cons, r0, r1, r2, r3, Bool.and_true]
  by_cases h1 : b = a <;> by_cases h2 : c = a <;> by_cases h3 : c = b <;> by_cases h4 : d = a <;> by_cases h5 : d = b <;> by_cases h6 : d = c <;> simp [h1, h2, h3, h4, h5, h6]
theorem meets_f {p : List ByteArray} {h w : Nat} {G : Nat → Nat → Int} (t : TG p h w G) (i j : Nat) (hi : 1 ≤ i ∧ i < h) (hj : 1 ≤ j ∧ j < w) : Ev (fun k => L7.spec_l2Meets.f k p (i : Int) (j : Int)) (meets G i j : Int) := by
  have hh := t.high
  have hw := t.wide
  have hl := t.len
  have e1 : wrap64 ((i : Int) - 1) = ((i - 1 : Nat) : Int) := by unfold wrap64; omega
  have e2 : wrap64 ((j : Int) - 1) = ((j - 1 : Nat) : Int) := by unfold wrap64; omega
  have s1 := t.size (i - 1) (by omega)
  have s2 := t.size i (by omega)
  have c1 := t.cell (i - 1) (j - 1) (by omega) (by omega)
  have c2 := t.cell (i - 1) j (by omega) (by omega)
  have c3 := t.cell i (j - 1) (by omega) (by omega)
  have c4 := t.cell i j (by omega) (by omega)
  have h0 := meets_l0 [G (i - 1) (j - 1), G (i - 1) j, G i (j - 1), G i j] rfl 4 0 0 (by omega) (by omega)
  rw [Nat.zero_add, nFirst4] at h0
  refine h0.same fun k => ?_
  show L7.spec_l2Meets.f k p (i : Int) (j : Int) = _
  unfold L7.spec_l2Meets.f
  rw [e1, e2, s1, s2, c1, c2, c3, c4]
  rw [if_pos (by omega), if_pos (by omega), if_pos (by omega), if_pos (by omega), if_pos (by omega), if_pos (by omega), if_pos (by omega), if_pos (by omega), if_pos (by omega), if_pos (by omega)]
  rfl
theorem points_l1 {p : List ByteArray} {h w : Nat} {G : Nat → Nat → Int} (t : TG p h w G) (many : Int) (i : Nat) (hi : 1 ≤ i ∧ i < h) (R : Int) : ∀ (d j n : Nat), j + d = w → 1 ≤ j → n + d ≤ 1000 → Ev (fun k => L7.spec_l2Points.l0 k p many ((n + rowPts G many i j d : Nat) : Int) ((i + 1 : Nat) : Int)) R →
    Ev (fun k => L7.spec_l2Points.l1 k p many (n : Int) (i : Int) (j : Int)) R := by
  have hh := t.high
  have hw := t.wide
  have hl := t.len
  have s0 := t.size 0 (by omega)
  intro d
  induction d with
  | zero =>
    intro j n hj hj1 hn hR
    refine hR.step fun k => ?_
    conv => lhs; rw [L7.spec_l2Points.l1]
    rw [if_pos (by omega), if_neg (by rw [show (0 : Int) = ((0 : Nat) : Int) from rfl, s0]; omega), ws i (by omega)]
    rfl
  | succ d ih =>
    intro j n hj hj1 hn hR
    have hm := meets_f t i j hi ⟨hj1, by omega⟩
    unfold rowPts at hR
    have hj9 : wrap64 ((j : Int) + 1) = ((j + 1 : Nat) : Int) := ws j (by omega)
    have hn9 : wrap64 ((n : Int) + 1) = ((n + 1 : Nat) : Int) := ws n (by omega)
    by_cases he : ((meets G i j : Nat) : Int) = many
    · rw [if_pos he] at hR
      have := ih (j + 1) (n + 1) (by omega) (by omega) (by omega) (by rwa [show n + 1 + rowPts G many i (j + 1) d = n + (1 + rowPts G many i (j + 1) d) by omega])
      refine Ev.stepBind (F := fun k t111 => if t111 = many then (L7.spec_l2Points.l1 k p many (wrap64 ((n : Int) + 1)) (i : Int) (wrap64 ((j : Int) + 1))) else (L7.spec_l2Points.l1 k p many (n : Int) (i : Int) (wrap64 ((j : Int) + 1)))) hm (fun k => ?_) ?_
      · conv => lhs; rw [L7.spec_l2Points.l1]
        rw [if_pos (by omega), if_pos (by rw [show (0 : Int) = ((0 : Nat) : Int) from rfl, s0]; omega)]
      · simp only [if_pos he, hj9, hn9]
        exact this
    · rw [if_neg he, Nat.zero_add] at hR
      have := ih (j + 1) n (by omega) (by omega) (by omega) hR
      refine Ev.stepBind (F := fun k t111 => if t111 = many then (L7.spec_l2Points.l1 k p many (wrap64 ((n : Int) + 1)) (i : Int) (wrap64 ((j : Int) + 1))) else (L7.spec_l2Points.l1 k p many (n : Int) (i : Int) (wrap64 ((j : Int) + 1)))) hm (fun k => ?_) ?_
      · conv => lhs; rw [L7.spec_l2Points.l1]
        rw [if_pos (by omega), if_pos (by rw [show (0 : Int) = ((0 : Nat) : Int) from rfl, s0]; omega)]
      · simp only [if_neg he, hj9]
        exact this
theorem points_l0 {p : List ByteArray} {h w : Nat} {G : Nat → Nat → Int} (t : TG p h w G) (many : Int) : ∀ (d i n : Nat), i + d = h → 1 ≤ i → n ≤ 6 * i → Ev (fun k => L7.spec_l2Points.l0 k p many (n : Int) (i : Int)) ((n + allPts G w many i d : Nat) : Int) := by
  have hh := t.high
  have hw := t.wide
  have hl := t.len
  intro d
  induction d with
  | zero =>
    intro i n hi h1 hn
    refine Ev.now fun k => ?_
    rw [L7.spec_l2Points.l0, if_neg (by omega)]
    rfl
  | succ d ih =>
    intro i n hi h1 hn
    have hle := rowPts_le G many i (w - 1) 1
    have := ih (i + 1) (n + rowPts G many i 1 (w - 1)) (by omega) (by omega) (by omega)
    unfold allPts
    rw [Nat.add_assoc] at this
    have h9 := points_l1 t many i ⟨h1, by omega⟩ _ (w - 1) 1 n (by omega) (Nat.le_refl _) (by omega) this
    refine h9.step fun k => ?_
    conv => lhs; rw [L7.spec_l2Points.l0]
    rw [if_pos (by omega)]
    try rfl
theorem points_f {p : List ByteArray} {h w : Nat} {G : Nat → Nat → Int} (t : TG p h w G) (many : Int) : Ev (fun k => L7.spec_l2Points.f k p many) ((allPts G w many 1 (h - 1) : Nat) : Int) := by
  have hh := t.high
  have := points_l0 t many (h - 1) 1 0 (by omega) (Nat.le_refl _) (Nat.zero_le _)
  rw [Nat.zero_add] at this
  exact this
theorem meets_move (cl : Nat → Nat → Int) (i j : Nat) (hi : 1 ≤ i) (hj : 1 ≤ j) : meets (fun i j => 97 + cl (0 + i) (0 + j)) i j = meets cl i j := by
  unfold meets firsts4
  simp only [Nat.zero_add]
  have e : ∀ a b : Int, (97 + a ≠ 97 + b) ↔ a ≠ b := fun a b => by omega
  simp only [e]
  have l : ∀ (P : Prop) [Decidable P] (x y : Int), (if P then [x] else []).length = (if P then [y] else []).length := fun P _ x y => by split <;> rfl
  rw [List.length_append, List.length_append, List.length_append, List.length_append, List.length_append, List.length_append, l _ (97 + cl (i - 1) j) (cl (i - 1) j), l _ (97 + cl i (j - 1)) (cl i (j - 1)), l _ (97 + cl i j) (cl i j)]
  rfl
end Go.Proofs.Ytbpppchkgjcahaa
end
section
namespace Go.Proofs
open Go.Shelf
end Go.Proofs
end
section
namespace Go.Proofs.Ytbpppchkgjcahaa
open Go.RowKit Go.Shelf Go.Proofs.YtbpppchkgjcahaaW.PrintWords Go.Proofs.YtbpppchkgjcahaaW.PrintMore
set_option linter.unusedVariables false
set_option linter.unusedSimpArgs false
theorem sort4_any (B : Nat) (a b c d : Int) (w : World) (hB : w.heap[B]? = some (.cells #[.int .i64 a, .int .i64 b, .int .i64 c, .int .i64 d] 3 (0, 0))) :
    Calls Try.prog 192 #[.slice (some ⟨B, 0, none⟩) 4 4] w fun e w' => e = .returned (.tuple #[]) ∧ w.grownBy w' (some B) ∧ Go.Sort.Holds (Value.int .i64) w' B 0 ([a, b, c, d].mergeSort fun x y => decide (x ≤ y)).toArray := by
  have hH : Go.Sort.Holds (Value.int .i64) w B 0 [a, b, c, d].toArray := holds_of_blockI hB rfl
  have hlt : B < w.heap.size := (Array.getElem?_eq_some_iff.1 hB).1
  refine (Try.slices_Sort_int B 0 4 [a, b, c, d] w hH hlt (by show 4 < _; omega)).mono ?_
  rintro e w' ⟨rfl, n, os, rfl⟩
  refine ⟨rfl, grownBy_sortedI _, Go.Sort.holds_grow _ _ _ _ _ _ (by simpa using hlt) (Go.Sort.holds_putRow _ _ _ _ _ _ (Go.Sort.holds_ahead _ _ _ _ _ _ hH) ?_)⟩
  rw [List.size_toArray, List.size_toArray, (List.mergeSort_perm _ _).length_eq]
theorem compact4_any (B : Nat) (zs : List Int) (h4 : zs.length = 4) (w : World) (hH : Go.Sort.Holds (Value.int .i64) w B 0 zs.toArray) :
    Calls Try.prog 193 #[.slice (some ⟨B, 0, none⟩) 4 4] w fun e w' => e = .returned (.slice (some ⟨B, 0, none⟩) (Lib.compact zs).length 4) ∧ w.grownBy w' (some B) := by
  have h := Try.slices_Compact_int B 0 4 zs w hH (by omega) (by omega)
  rw [h4] at h
  refine h.mono ?_
  rintro e w' ⟨rfl, q, rfl⟩
  refine ⟨rfl, ?_⟩
  have := grownBy_sortedI (w := w) (g := B) (n := q) (os := #[]) (Lib.compact zs ++ List.replicate (4 - (Lib.compact zs).length) 0).toArray
  rwa [Go.Sort.grow_empty] at this
theorem rowPts_split (G : Nat → Nat → Int) (many : Int) (i : Nat) {j w : Nat} (h : j < w) : rowPts G many i j (w - j) = (if ((meets G i j : Nat) : Int) = many then 1 else 0) + rowPts G many i (j + 1) (w - (j + 1)) := by
  rw [show w - j = (w - (j + 1)) + 1 by omega]; rfl
theorem allPts_split (G : Nat → Nat → Int) (w : Nat) (many : Int) {i h : Nat} (hi : i < h) : allPts G w many i (h - i) = rowPts G many i 1 (w - 1) + allPts G w many (i + 1) (h - (i + 1)) := by
  rw [show h - i = (h - (i + 1)) + 1 by omega]; rfl
set_option maxRecDepth 100000 in
set_option maxHeartbeats 16000000 in
theorem points_any (fb h wd : Nat) (cl : Nat → Nat → Int) (boxes : List Box) (hh : 1 ≤ h ∧ h ≤ 6) (hw : 1 ≤ wd ∧ wd ≤ 6) (w : World) (hf : FloorR w fb h wd cl boxes) (many : Int) :
    Calls Try.prog 158 #[.pointer (some ⟨fb, 0, none⟩), .int .i64 many] w fun e w' => e = .returned (.int .i64 ((allPts cl wd many 1 (h - 1) : Nat) : Int)) ∧ Below w.heap.size w w' := by
  have hT : allPts cl wd many 1 (h - 1) ≤ 25 := by
    have h1 := allPts_le cl wd many (h - 1) 1
    have h2 : (h - 1) * (wd - 1) ≤ 5 * 5 := Nat.mul_le_mul (by omega) (by omega)
    omega
  obtain ⟨T, hTT⟩ : ∃ T, allPts cl wd many 1 (h - 1) = T := ⟨_, rfl⟩
  rw [hTT] at hT ⊢
  have HT := Aside0.mk hTT
  have HF := Aside0.mk hf
  clear hTT hf
  have HHI : Aside0 (∀ W, Below w.heap.size w W → Calls Try.prog 124 #[.pointer (some ⟨fb, 0, none⟩)] W fun e w' => e = .returned (.int .i64 h) ∧ w' = W) := ⟨fun W hW => by
    obtain ⟨g, rb, RA, rc, h1, h2, h3, h4, h5, h6⟩ := HF.out
    exact high_any _ _ h h W ((hW.cell (p := ⟨fb, 0, none⟩) h1).trans h3)⟩
  have HWI : Aside0 (∀ W, Below w.heap.size w W → Calls Try.prog 125 #[.pointer (some ⟨fb, 0, none⟩)] W fun e w' => e = .returned (.int .i64 wd) ∧ w' = W) := ⟨fun W hW => by
    obtain ⟨g, rb, RA, rc, h1, h2, h3, h4, h5, h6⟩ := HF.out
    obtain ⟨b1, b2, b3⟩ := h5 0 (by omega)
    exact wide_any _ g h h hh.1 _ wd wd W ((hW.cell (p := ⟨fb, 0, none⟩) h1).trans h3) ((hW.cell (p := ⟨g, 0, none⟩) h2).trans b2)⟩
  go_enter Try.func158, Try.ntmps158
  go_wp2
  go_loopw [5, 6] (fun s r wr => ∃ (i sm : Nat), r = .int .i64 i ∧ 1 ≤ i ∧ i ≤ h ∧ s = .int .i64 sm ∧ sm ≤ 25 ∧ Aside0 (sm + allPts cl wd many i (h - i) = T ∧ Below w.heap.size w wr)) (fun _ r _ => h - (intOf r).toNat)
  case atStart => exact ⟨1, 0, rfl, Nat.le_refl _, hh.1, rfl, by omega, ⟨by rw [Nat.zero_add]; exact HT.out, Below.refl _ _⟩⟩
  case round =>
    obtain ⟨i, sm, rfl, hi1, hih, rfl, hsm, HD⟩ := hrel
    obtain ⟨wo, rfl⟩ : ∃ wo : World, wo = wr := ⟨_, rfl⟩
    by_cases hlt : (i : Int) < (h : Int)
    · have hsp := allPts_split cl wd many (show i < h by omega)
      have HSP := Aside0.mk hsp
      clear hsp
      go_wp2_with fail
      refine (HHI.out _ HD.out.2).mono ?_
      rintro e w2 ⟨rfl, rfl⟩
      go_wp2
      go_loopw [5, 7] (fun s c w2 => ∃ (j sn : Nat), c = .int .i64 j ∧ 1 ≤ j ∧ j ≤ wd ∧ s = .int .i64 sn ∧ sn ≤ 25 ∧ Aside0 (sn + rowPts cl many i j (wd - j) + allPts cl wd many (i + 1) (h - (i + 1)) = T ∧ Below w.heap.size w w2)) (fun _ c _ => wd - (intOf c).toNat)
      case atStart => exact ⟨1, sm, rfl, Nat.le_refl _, hw.1, rfl, hsm, ⟨by have h1 := HD.out.1; have h2 := HSP.out; omega, HD.out.2⟩⟩
      case round =>
        obtain ⟨j, sn, rfl, hj1, hjw, rfl, hsn, HE⟩ := hrel
        by_cases hlj : (j : Int) < (wd : Int)
        · have hrs := rowPts_split cl many i (show j < wd by omega)
          have hfd := four_distinct (cl (i - 1) (j - 1)) (cl (i - 1) j) (cl i (j - 1)) (cl i j)
          obtain ⟨a, ha⟩ : ∃ a, cl (i - 1) (j - 1) = a := ⟨_, rfl⟩
          obtain ⟨b, hb⟩ : ∃ a, cl (i - 1) j = a := ⟨_, rfl⟩
          obtain ⟨c, hc⟩ : ∃ a, cl i (j - 1) = a := ⟨_, rfl⟩
          obtain ⟨d, hd⟩ : ∃ a, cl i j = a := ⟨_, rfl⟩
          have hm : meets cl i j = (firsts4 a b c d).length := by unfold meets; rw [ha, hb, hc, hd]
          rw [hm] at hrs
          rw [ha, hb, hc, hd] at hfd
          obtain ⟨g, rb, RA, rc, h1, h2, h3, h4, h5, h6⟩ := HF.out.below HE.out.2
          obtain ⟨a1, a2, a3⟩ := h5 (i - 1) (by omega)
          obtain ⟨b1, b2, b3⟩ := h5 i (by omega)
          have f1 := a3 (j - 1) (by omega)
          have f2 := a3 j (by omega)
          have f3 := b3 (j - 1) (by omega)
          have f4 := b3 j (by omega)
          rw [ha] at f1
          rw [hb] at f2
          rw [hc] at f3
          rw [hd] at f4
          have HRS := Aside0.mk hrs
          have HFD := Aside0.mk hfd
          clear hrs hfd ha hb hc hd hm h1 h2 h4 h5 h6 a1 a3 b1 b3
          obtain ⟨q1, hq1⟩ : ∃ q, rb (i - 1) = q := ⟨_, rfl⟩
          obtain ⟨q2, hq2⟩ : ∃ q, rb i = q := ⟨_, rfl⟩
          rw [hq1] at a2 f1 f2
          rw [hq2] at b2 f3 f4
          clear hq1 hq2
          have e1 : ((i : Int) - 1) = ((i - 1 : Nat) : Int) := by omega
          have e2 : ((j : Int) - 1) = ((j - 1 : Nat) : Int) := by omega
          have v1 : IntKind.i64.wrap ((i - 1 : Nat) : Int) = ((i - 1 : Nat) : Int) := by rw [IntKind.wrap_i64]; omega
          have v2 : IntKind.i64.wrap ((j - 1 : Nat) : Int) = ((j - 1 : Nat) : Int) := by rw [IntKind.wrap_i64]; omega
          have n1 : (0 : Int) ≤ ((i - 1 : Nat) : Int) := by omega
          have n2 : ((i - 1 : Nat) : Int) < (h : Int) := by omega
          have n3 : (0 : Int) ≤ ((j - 1 : Nat) : Int) := by omega
          have n4 : ((j - 1 : Nat) : Int) < (wd : Int) := by omega
          go_wp2_with fail
          refine (HWI.out _ HE.out.2).mono ?_
          rintro e w3 ⟨rfl, rfl⟩
          go_wp2_with fail
          refine wp_still_tail 44 (by kernel_rfl) (by kernel_rfl) ?_
          simp only [List.take_succ_cons, List.take_zero, List.drop_succ_cons, List.drop_zero]
          repeat still_step
          refine wpStill_nil ?_
          go_wp2_with fail
          refine Calls.mono (sort4_any w3.heap.size a b c d _ ?hB) ?_
          case hB => exact heap_alloc_new _ _
          rintro e w4 ⟨rfl, hg4, hh4⟩
          have HB4 : Aside0 (Below w.heap.size w w4) := ⟨Below.grown (by repeat (first | exact HE.out.2 | apply pw_below_drewN | apply below_alloc)) hg4 (by have := HE.out.2.size; simp; omega) (fun j e => by injection e with e; have := HE.out.2.size; omega)⟩
          have hcp := compact4_any w3.heap.size _ (by rw [(List.mergeSort_perm _ _).length_eq]; rfl) w4 hh4
          rw [HFD.out] at hcp
          obtain ⟨M, hM⟩ : ∃ M, (firsts4 a b c d).length = M := ⟨_, rfl⟩
          have hrs := HRS.out
          rw [hM] at hcp hrs
          have HCP := Aside0.mk hcp
          have HRM := Aside0.mk hrs
          clear hg4 hh4 hcp hrs hM HRS HFD f1 f2 f3 f4 a2 b2 h3 e1 e2 v1 v2 n1 n2 n3 n4
          by_cases hmm : (M : Int) = many
          · have t1 : ((M : Int) == many) = true := by rw [beq_iff_eq]; exact hmm
            have HMM := Aside0.mk hmm
            clear hmm
            go_wp2_with fail
            refine HCP.out.mono ?_
            rintro e w5 ⟨rfl, hg5⟩
            have HB5 : Aside0 (Below w.heap.size w w5) := ⟨HB4.out.grown hg5 HB4.out.size (fun j e => by injection e with e; have := HE.out.2.size; omega)⟩
            clear hg5
            have hr := HRM.out
            rw [if_pos HMM.out] at hr
            have hs1 : sn + 1 + rowPts cl many i (j + 1) (wd - (j + 1)) + allPts cl wd many (i + 1) (h - (i + 1)) = T := by have := HE.out.1; omega
            have hs2 : sn + 1 ≤ 25 := by omega
            have HS1 := Aside0.mk hs1
            clear hr hs1
            go_wp2
            go_roundw
            case rel => exact ⟨j + 1, sn + 1, by go_num, by omega, by omega, by go_num, hs2, ⟨HS1.out, HB5.out⟩⟩
            case measure => simp [intOf]; omega
          · have t1 : ((M : Int) == many) = false := by rw [beq_eq_false_iff_ne]; exact hmm
            have HMM := Aside0.mk hmm
            clear hmm
            go_wp2_with fail
            refine HCP.out.mono ?_
            rintro e w5 ⟨rfl, hg5⟩
            have HB5 : Aside0 (Below w.heap.size w w5) := ⟨HB4.out.grown hg5 HB4.out.size (fun j e => by injection e with e; have := HE.out.2.size; omega)⟩
            clear hg5
            have hr := HRM.out
            rw [if_neg HMM.out, Nat.zero_add] at hr
            have hs1 : sn + rowPts cl many i (j + 1) (wd - (j + 1)) + allPts cl wd many (i + 1) (h - (i + 1)) = T := by have := HE.out.1; omega
            have HS1 := Aside0.mk hs1
            clear hr hs1
            go_wp2
            go_roundw
            case rel => exact ⟨j + 1, sn, by go_num, by omega, by omega, rfl, hsn, ⟨HS1.out, HB5.out⟩⟩
            case measure => simp [intOf]; omega
        · have hjw2 : j = wd := by omega
          have hs1 : sn + allPts cl wd many (i + 1) (h - (i + 1)) = T := by
            have := HE.out.1
            rw [hjw2, Nat.sub_self] at this
            exact this
          have HS1 := Aside0.mk hs1
          clear hs1
          go_wp2_with fail
          refine (HWI.out _ HE.out.2).mono ?_
          rintro e w3 ⟨rfl, rfl⟩
          clear hjw2
          go_wp2
          go_roundw
          case rel => exact ⟨i + 1, sn, by go_num, by omega, by omega, rfl, hsn, ⟨HS1.out, HE.out.2⟩⟩
          case measure => simp [intOf]; omega
    · have hs1 : sm = T := by
        have := HD.out.1
        rw [show h - i = 0 by omega] at this
        exact this
      go_wp2_with fail
      refine (HHI.out _ HD.out.2).mono ?_
      rintro e w3 ⟨rfl, rfl⟩
      have HS1 := Aside0.mk hs1
      clear hs1
      go_wp2
      go_ret
      exact ⟨rfl, HD.out.2⟩
end Go.Proofs.Ytbpppchkgjcahaa
end
section
namespace Go.Proofs.Ytbpppchkgjcahaa
open Go.RowKit Go.Shelf Go.Proofs.YtbpppchkgjcahaaW.PrintWords Go.Proofs.YtbpppchkgjcahaaW.PrintMore
set_option linter.unusedVariables false
set_option linter.unusedSimpArgs false
theorem sumTo_same {f g : Nat → Nat} : ∀ {n : Nat}, (∀ k, k < n → f k = g k) → sumTo f n = sumTo g n := by
  intro n
  induction n with
  | zero => intro _; rfl
  | succ n ih =>
    intro h
    unfold sumTo
    rw [ih fun k hk => h k (by omega), h n (by omega)]
theorem sumTo_head (f : Nat → Nat) (n : Nat) : sumTo f (n + 1) = f 0 + sumTo (fun k => f (k + 1)) n := by
  induction n with
  | zero => show 0 + f 0 = f 0 + 0; omega
  | succ n ih =>
    rw [show sumTo f (n + 1 + 1) = sumTo f (n + 1) + f (n + 1) from rfl, ih]
    show _ = f 0 + (sumTo (fun k => f (k + 1)) n + f (n + 1))
    omega
def ptI (G : Nat → Nat → Int) (many : Int) (i j : Nat) : Nat := if ((meets G i j : Nat) : Int) = many then 1 else 0
theorem rowPts_sum (G : Nat → Nat → Int) (many : Int) (i : Nat) : ∀ d j, rowPts G many i j d = sumTo (fun x => ptI G many i (j + x)) d := by
  intro d
  induction d with
  | zero => intro j; rfl
  | succ d ih =>
    intro j
    rw [sumTo_head]
    unfold rowPts
    rw [ih (j + 1)]
    show ptI G many i j + _ = _
    congr 1
    exact sumTo_same fun k _ => by rw [show j + 1 + k = j + (k + 1) by omega]
theorem allPts_sum (G : Nat → Nat → Int) (w : Nat) (many : Int) : ∀ d i, allPts G w many i d = sumTo (fun y => sumTo (fun x => ptI G many (i + y) (1 + x)) (w - 1)) d := by
  intro d
  induction d with
  | zero => intro i; rfl
  | succ d ih =>
    intro i
    rw [sumTo_head]
    unfold allPts
    rw [ih (i + 1), rowPts_sum]
    congr 1
    exact sumTo_same fun k _ => by rw [show i + 1 + k = i + (k + 1) by omega]
def x2 (p q : Bool) : Nat := if p = q then 0 else 1
def b1 (p : Bool) : Nat := if p then 1 else 0
end Go.Proofs.Ytbpppchkgjcahaa
end
section
namespace Go.Proofs.Ytbpppchkgjcahaa
open Go.RowKit Go.Shelf Go.Proofs.YtbpppchkgjcahaaW.PrintWords Go.Proofs.YtbpppchkgjcahaaW.PrintMore
set_option linter.unusedVariables false
set_option linter.unusedSimpArgs false
def pointsP (p : List ByteArray) (many : Int) : Int := ((allPts (clP p) (wdP p) many 1 (p.length - 1) : Nat) : Int)
def plainP (p : List ByteArray) : Bool := planG p && (pointsP p 4 == 0)
theorem allPts_same {G G' : Nat → Nat → Int} {w : Nat} {many : Int} {d i : Nat} (h : ∀ y x, y < d → x < w - 1 → ptI G many (i + y) (1 + x) = ptI G' many (i + y) (1 + x)) : allPts G w many i d = allPts G' w many i d := by
  rw [allPts_sum, allPts_sum]
  exact sumTo_same fun y hy => sumTo_same fun x hx => h y x hy hx
theorem pts_ev {p : List ByteArray} (h : planG p = true) (many : Int) : Ev (fun k => L7.spec_l2Points.f k p many) (pointsP p many) := by
  have := points_f (planTG h) many
  have e : allPts (gridOf (clP p) 0 0) (wdP p) many 1 (p.length - 1) = allPts (clP p) (wdP p) many 1 (p.length - 1) := allPts_same fun y x hy hx => by
    unfold ptI
    rw [show meets (gridOf (clP p) 0 0) (1 + y) (1 + x) = meets (clP p) (1 + y) (1 + x) from meets_move (clP p) (1 + y) (1 + x) (by omega) (by omega)]
  rw [e] at this
  exact this
theorem planIn_ev (p : List ByteArray) (hp : SmallP p) : Ev (fun _ : Nat => spec_PlanIn.f p) (planG p) := ⟨0, fun k _ => by unfold spec_PlanIn.f; rw [if_pos hp]⟩
theorem spec_WallPlain_ev (p : List ByteArray) (hp : SmallP p) : Ev (fun k => L7.spec_WallPlain.f k p) (plainP p) := by
  have hPI := planIn_ev p hp
  unfold plainP
  cases h : planG p with
  | false =>
    rw [h] at hPI
    refine hPI.bind (F := fun k t => _) ?_
    simp only [Bool.false_eq_true, if_false]
    exact Ev.const _
  | true =>
    rw [h] at hPI
    refine hPI.bind (F := fun k t => _) ?_
    simp only [if_true]
    exact (pts_ev h 4).bind (Ev.const _)
theorem plain_any (fb h wd : Nat) (cl : Nat → Nat → Int) (boxes : List Box) (hh : 1 ≤ h ∧ h ≤ 6) (hw : 1 ≤ wd ∧ wd ≤ 6) (w : World) (hf : FloorR w fb h wd cl boxes) :
    Calls Try.prog 100 #[.pointer (some ⟨fb, 0, none⟩)] w fun e w' => e = .returned (.bool (((allPts cl wd 4 1 (h - 1) : Nat) : Int) == 0)) ∧ Below w.heap.size w w' := by
  have HPT := Aside0.mk (points_any fb h wd cl boxes hh hw w hf 4)
  clear hf
  obtain ⟨T, hT⟩ : ∃ T, allPts cl wd 4 1 (h - 1) = T := ⟨_, rfl⟩
  rw [hT] at HPT ⊢
  clear hT
  go_enter Try.func100, Try.ntmps100
  go_wp2_with fail
  refine HPT.out.mono ?_
  rintro e w2 ⟨rfl, hb2⟩
  have HB2 := Aside0.mk hb2
  clear hb2
  go_wp2_with fail
  go_ret
  exact ⟨rfl, HB2.out⟩
def PlainE (w w' : World) (p : List ByteArray) (e : Ending) : Prop := Below w.heap.size w w' ∧
  ((plainP p = true ∧ ∃ fb, e = .returned (.tuple #[.pointer (some ⟨fb, 0, none⟩), .bool true]) ∧ FloorR w' fb p.length (wdP p) (clP p) (boxesP p)) ∨
   (plainP p = false ∧ ∃ o, e = .returned (.tuple #[.pointer o, .bool false])))
set_option maxHeartbeats 4000000 in
theorem plainOf_any (A : Option Addr) (cap : Nat) (p : List ByteArray) (hp : SmallP p) (w : World) (hr0 : Kd.C Kd.string w A p.length p) (hc0 : p.length ≤ cap) :
    Calls Try.prog 67 #[.slice A p.length cap] w fun e w' => PlainE w w' p e := by
  have HFL := floorOf_any A cap p hp.1 hp.2 w hr0 hc0
  clear hr0
  go_enter Try.func67, Try.ntmps67
  go_wp2_with fail
  refine HFL.mono ?_
  rintro e w1 ⟨hb1, ⟨hpl, fb, base, rfl, hbase, hfl⟩ | ⟨hpl, o, rfl⟩⟩
  · have HB1 := Aside0.mk hb1
    have HR := Aside0.mk hfl.reads
    have hpc := plain_any fb p.length (wdP p) (clP p) (boxesP p) (planFlat hpl).high (planFlat hpl).wide w1 hfl.reads
    have hval : plainP p = (((allPts (clP p) (wdP p) 4 1 (p.length - 1) : Nat) : Int) == 0) := by unfold plainP; rw [hpl, Bool.true_and]; rfl
    rw [← hval] at hpc
    have HPC := Aside0.mk hpc
    clear hb1 hpl hfl hval hpc
    go_wp2_with fail
    refine HPC.out.mono ?_
    rintro e w2 ⟨rfl, hb2⟩
    have HB2 := Aside0.mk hb2
    clear hb2
    cases hv : plainP p with
    | true =>
      have HV := Aside0.mk hv
      clear hv
      go_wp2_with fail
      go_ret2
      exact ⟨HB1.out.trans (HB2.out.mono HB1.out.size), .inl ⟨HV.out, fb, rfl, HR.out.below HB2.out⟩⟩
    | false =>
      have HV := Aside0.mk hv
      clear hv
      go_wp2_with fail
      go_ret2
      exact ⟨HB1.out.trans (HB2.out.mono HB1.out.size), .inr ⟨HV.out, _, rfl⟩⟩
  · have HB1 := Aside0.mk hb1
    have hval : plainP p = false := by unfold plainP; rw [hpl]; rfl
    have HV := Aside0.mk hval
    clear hb1 hpl hval
    go_wp2_with fail
    go_ret2
    exact ⟨HB1.out, .inr ⟨HV.out, _, rfl⟩⟩
def spec_WallPlain.f (l0 : List ByteArray) : Option Bool := if SmallP l0 then some (plainP l0) else none
theorem spec_WallPlain.calls (A0 : Option Addr) (c0 : Nat) (l0 : List ByteArray) (r : Bool) (w : World) (hr0 : Kd.C Kd.string w A0 l0.length l0) (hc0 : l0.length ≤ c0) (h : spec_WallPlain.f l0 = some r) :
    Calls Try.prog 117 #[.slice A0 l0.length c0] w fun e w' => e = .returned (.bool r) ∧ Below w.heap.size w w' := by
  unfold spec_WallPlain.f at h
  split at h
  · rename_i hb
    injection h with h
    obtain ⟨k, hk⟩ := (spec_WallPlain_ev l0 hb).ex
    rw [h] at hk
    exact L7.spec_WallPlain.calls k A0 c0 l0 r w hr0 hc0 hk
  · cases h
end Go.Proofs.Ytbpppchkgjcahaa
end
