/- Texts of this claim's, joined by a program: LBitP, LCutText, LStuck, LLetters, LSpecStuck, LCutStuckP, LRelW, LCloseQ, LClose, LPoints, LWallX, LNeeding. -/
import Derived.Lib.SlicesCompact
import Derived.Test.YtdhnjecbdclmaaaKLSpecTextM
import Derived.Test.YtdhnjecbdclmaaaKLPartM
import Derived.Test.YtdhnjecbdclmaaaKLBlank
import Derived.StillTailTactics
import Derived.Deep.LoopGhost
import Derived.Test.YtdhnjecbdclmaaaKLShelfM
import Derived.Test.YtdhnjecbdclmaaaKLFourDM
import Derived.Sort.OwnSortedInts
import Derived.Test.YtdhnjecbdclmaaaKLContains
section
namespace Go.Proofs.Ytdhnjecbdclmaaa
set_option linter.unusedVariables false
set_option linter.unusedSimpArgs false
set_option linter.unusedSectionVars false
def bitsN (R : Nat → Bool) : Nat → Nat
  | 0 => 0
  | k + 1 => bitsN R k + if R k = true then 2 ^ k else 0
theorem bitsN_lt (R : Nat → Bool) : ∀ n, bitsN R n < 2 ^ n := by
  intro n
  induction n with
  | zero => exact Nat.one_pos
  | succ n ih =>
    show bitsN R n + (if R n = true then 2 ^ n else 0) < 2 ^ (n + 1)
    rw [Nat.pow_succ]
    split <;> omega
theorem bitsN_test (R : Nat → Bool) : ∀ n j, (bitsN R n).testBit j = (decide (j < n) && R j) := by
  intro n
  induction n with
  | zero => intro j; show Nat.testBit 0 j = _; simp
  | succ n ih =>
    intro j
    show Nat.testBit (bitsN R n + (if R n = true then 2 ^ n else 0)) j = _
    rcases Nat.lt_trichotomy j n with h | h | h
    · by_cases hr : R n = true
      · rw [if_pos hr, Nat.add_comm, Nat.testBit_two_pow_add_gt h, ih j]
        simp [h, Nat.lt_succ_of_lt h]
      · rw [if_neg hr, Nat.add_zero, ih j]
        simp [h, Nat.lt_succ_of_lt h]
    · subst h
      by_cases hr : R j = true
      · rw [if_pos hr, Nat.add_comm, Nat.testBit_two_pow_add_eq, ih j]
        simp [hr]
      · rw [if_neg hr, Nat.add_zero, ih j]
        simp [hr]
    · have hl : bitsN R n + (if R n = true then 2 ^ n else 0) < 2 ^ j := Nat.lt_of_lt_of_le (bitsN_lt R (n + 1)) (Nat.pow_le_pow_right (by omega) h)
      rw [Nat.testBit_lt_two_pow hl]
      simp [show ¬ j < n + 1 by omega]
theorem bits_or (R S : Nat → Bool) (n : Nat) : bitsN R n ||| bitsN S n = bitsN (fun j => R j || S j) n := by
  apply Nat.eq_of_testBit_eq
  intro j
  rw [Nat.testBit_or, bitsN_test, bitsN_test, bitsN_test]
  cases decide (j < n) <;> simp
theorem bits_one (R : Nat → Bool) {n b : Nat} (hb : b < n) : bitsN R n ||| 2 ^ b = bitsN (fun j => R j || decide (j = b)) n := by
  apply Nat.eq_of_testBit_eq
  intro j
  rw [Nat.testBit_or, bitsN_test, bitsN_test, Nat.testBit_two_pow]
  by_cases e : b = j
  · subst e; simp [hb]
  · simp [e, show ¬ j = b from fun h => e h.symm]
theorem bits_mem (R : Nat → Bool) (n c : Nat) : bitsN R n / 2 ^ c % 2 = if c < n ∧ R c = true then 1 else 0 := by
  have h := bitsN_test R n c
  rw [Nat.testBit_eq_decide_div_mod_eq] at h
  by_cases hc : c < n ∧ R c = true
  · rw [if_pos hc]
    simpa [hc.1, hc.2] using h
  · rw [if_neg hc]
    have : decide (bitsN R n / 2 ^ c % 2 = 1) = false := by
      rw [h]
      by_cases h1 : c < n
      · simp [h1]; simpa [h1] using hc
      · simp [h1]
    have := of_decide_eq_false this
    omega
theorem bitsN_cong {R S : Nat → Bool} : ∀ {n}, (∀ j, j < n → R j = S j) → bitsN R n = bitsN S n := by
  intro n
  induction n with
  | zero => intro _; rfl
  | succ n ih =>
    intro h
    show bitsN R n + _ = bitsN S n + _
    rw [ih fun j hj => h j (by omega), h n (by omega)]
theorem bitsN_small (R : Nat → Bool) {n : Nat} (hn : n ≤ 9) : bitsN R n < 512 := Nat.lt_of_lt_of_le (bitsN_lt R n) (Nat.pow_le_pow_right (by omega) hn)
theorem or_int {a b : Nat} (ha : a < 512) (hb : b < 512) : (BitVec.ofInt 64 (a : Int) ||| BitVec.ofInt 64 (b : Int)).toNat = a ||| b := by
  rw [BitVec.toNat_or]
  rw [show (BitVec.ofInt 64 (a : Int)).toNat = a by simp; omega, show (BitVec.ofInt 64 (b : Int)).toNat = b by simp; omega]
theorem and_int {a : Nat} (ha : a < 512) : (BitVec.ofInt 64 (a : Int) &&& BitVec.ofInt 64 1).toNat = a % 2 := by
  rw [BitVec.toNat_and]
  rw [show (BitVec.ofInt 64 (a : Int)).toNat = a by simp; omega, show (BitVec.ofInt 64 1).toNat = 1 by rfl, Nat.and_one_is_mod]
end Go.Proofs.Ytdhnjecbdclmaaa
end
section
namespace Go.Proofs.Ytdhnjecbdclmaaa
open Go.RowKit Go.Shelf Go.Proofs.YtdhnjecbdclmaaaW.PrintWords Go.Proofs.YtdhnjecbdclmaaaW.PrintMore
set_option linter.unusedVariables false
end Go.Proofs.Ytdhnjecbdclmaaa
end
section
namespace Go.Proofs.Ytdhnjecbdclmaaa
open Go.RowKit Go.Shelf Go.Proofs.YtdhnjecbdclmaaaW.PrintWords Go.Proofs.YtdhnjecbdclmaaaW.PrintMore
set_option linter.unusedVariables false
set_option linter.unusedSimpArgs false
end Go.Proofs.Ytdhnjecbdclmaaa
end
section
namespace Go.Proofs.Ytdhnjecbdclmaaa
open Go.RowKit Go.Shelf Go.Proofs.YtdhnjecbdclmaaaW.PrintWords Go.Proofs.YtdhnjecbdclmaaaW.PrintMore
set_option linter.unusedVariables false
end Go.Proofs.Ytdhnjecbdclmaaa
end
section
namespace Go.Proofs.Ytdhnjecbdclmaaa
open Go.RowKit Go.Shelf Go.Proofs.YtdhnjecbdclmaaaW.PrintWords Go.Proofs.YtdhnjecbdclmaaaW.PrintMore
set_option linter.unusedVariables false
set_option linter.unusedSimpArgs false
end Go.Proofs.Ytdhnjecbdclmaaa
end
section
namespace Go.Proofs.Ytdhnjecbdclmaaa
open Go.RowKit Go.Shelf Go.Proofs.YtdhnjecbdclmaaaW.PrintWords Go.Proofs.YtdhnjecbdclmaaaW.PrintMore L2
set_option linter.unusedVariables false
set_option linter.unusedSimpArgs false
theorem TG.grid {p : List ByteArray} {h w : Nat} {G : Nat → Nat → Int} (t : TG p h w G) : TextGrid p w (fun n => G (n / w) (n % w)) := by
  have hl := t.len
  have hh := t.high
  have hw := t.wide
  have hrd : ∀ i (hi : i < p.length), rdOf ByteArray.empty p (i : Int) = p[i] := fun i hi => by
    unfold rdOf
    rw [Int.toNat_natCast, List.getD_eq_getElem?_getD, List.getElem?_eq_getElem hi]
    rfl
  refine ⟨by omega, by omega, fun i hi => ?_, fun i c hi hc => ?_, fun n hn => ?_⟩
  · have := t.size i (by omega)
    rwa [hrd i hi] at this
  · have := t.cell i c (by omega) hc
    rw [hrd i hi] at this
    rw [this, (div_row hc).1, (div_row hc).2]
  · refine t.let_ _ _ ?_ (Nat.mod_lt _ (by omega))
    rw [← hl]
    exact Nat.div_lt_of_lt_mul (by rw [Nat.mul_comm]; exact hn)
theorem plan_rooms {p : List ByteArray} (h : planG p = true) : ∃ k, L2.spec_l1Rooms.f k p = some ((boxesP p).length : Int) := by
  have F := planFacts h
  obtain ⟨hT, h1, h3⟩ := textGrid_of F.let_ F.shape
  have hN := named_of F.let_ F.shape F.named
  obtain ⟨k, hk⟩ := rooms_f hT
  change Named (wdP p) (fP p) (p.length * wdP p) at hN
  change L2.spec_l1Rooms.f k p = some (rmx (fP p) (p.length * wdP p)) at hk
  rw [rmx_named hN _ (Nat.le_refl _), scan_len, ← boxesP_scan] at hk
  exact ⟨k, hk⟩
end Go.Proofs.Ytdhnjecbdclmaaa
end
section
namespace Go.Proofs.Ytdhnjecbdclmaaa
open Go.RowKit Go.Shelf Go.Proofs.YtdhnjecbdclmaaaW.PrintWords Go.Proofs.YtdhnjecbdclmaaaW.PrintMore
set_option linter.unusedVariables false
set_option linter.unusedSimpArgs false
def boolRow (R : Nat → Nat → Bool) (n i : Nat) : List Value := (List.range n).map fun j => .bool (R i j)
structure RelW (W : World) (g n : Nat) (R : Nat → Nat → Bool) : Prop where
  top : W.heap[g]? = some (.cells ((List.range n).map fun i => Value.slice (some ⟨g + 1 + i, 0, none⟩) n n).toArray 153 (0, 0))
  row : ∀ i, i < n → W.heap[g + 1 + i]? = some (.cells (boolRow R n i).toArray 4 (0, 0))
theorem RelW.cell {W : World} {g n : Nat} {R : Nat → Nat → Bool} (h : RelW W g n R) {i : Nat} (hi : i < n) : W.cell? ⟨g, i, none⟩ = some (.slice (some ⟨g + 1 + i, 0, none⟩) n n) := by
  rw [Lib.cell_of_heap h.top]
  simp [List.getElem?_range hi]
theorem RelW.at {W : World} {g n : Nat} {R : Nat → Nat → Bool} (h : RelW W g n R) {i j : Nat} (hi : i < n) (hj : j < n) : W.cell? ⟨g + 1 + i, j, none⟩ = some (.bool (R i j)) ∧ W.frozen? ⟨g + 1 + i, j, none⟩ = false := by
  refine ⟨?_, Lib.frozen_of_heap (h.row i hi) j⟩
  rw [Lib.cell_of_heap (h.row i hi)]
  simp [boolRow, List.getElem?_range hj]
def setR (R : Nat → Nat → Bool) (a b : Nat) (v : Bool) : Nat → Nat → Bool := fun i j => if i = a ∧ j = b then v else R i j
theorem RelW.set {W : World} {g n : Nat} {R : Nat → Nat → Bool} (h : RelW W g n R) {a b : Nat} (ha : a < n) (hb : b < n) (v : Bool) : RelW (W.setCell ⟨g + 1 + a, b, none⟩ (.bool v)) g n (setR R a b v) := by
  refine ⟨?_, fun i hi => ?_⟩
  · rw [Below.heap_setCell _ _ _ _ (by show g ≠ g + 1 + a; omega)]; exact h.top
  · by_cases e : i = a
    · subst e
      have hr := h.row i hi
      have h1 : (W.setCell ⟨g + 1 + i, b, none⟩ (.bool v)).heap[g + 1 + i]? = some (.cells ((boolRow R n i).toArray.setIfInBounds b (.bool v)) 4 (0, 0)) := by
        simp [World.setCell, Array.getElem?_modify, hr]
      rw [h1]
      congr 2
      apply Array.ext_getElem?
      intro j
      simp only [Array.getElem?_setIfInBounds, List.getElem?_toArray, boolRow, List.getElem?_map, List.size_toArray, List.length_map, List.length_range]
      by_cases ej : b = j
      · subst ej
        rw [if_pos rfl, if_pos hb, List.getElem?_range hb]
        simp [setR]
      · rw [if_neg ej]
        by_cases hj : j < n
        · rw [List.getElem?_range hj]
          simp [setR, show ¬ j = b from fun e => ej e.symm]
        · rw [List.getElem?_eq_none (by simp; omega)]; rfl
    · rw [Below.heap_setCell _ _ _ _ (by show g + 1 + i ≠ g + 1 + a; omega), h.row i hi]
      simp [boolRow, setR, e]
theorem RelW.keep {W W' : World} {g n : Nat} {R : Nat → Nat → Bool} (h : RelW W g n R) (hk : ∀ k, g ≤ k → k ≤ g + n → W'.heap[k]? = W.heap[k]?) : RelW W' g n R :=
  ⟨by rw [hk g (Nat.le_refl _) (by omega)]; exact h.top, fun i hi => by rw [hk _ (by omega) (by omega)]; exact h.row i hi⟩
structure RelPart (w W : World) (n k : Nat) : Prop where
  below : Below w.heap.size w W
  size : W.heap.size = w.heap.size + 1 + k
  top : W.heap[w.heap.size]? = some (.cells (((List.range k).map fun i => Value.slice (some ⟨w.heap.size + 1 + i, 0, none⟩) n n) ++ List.replicate (n - k) (Value.slice none 0 0)).toArray 153 (0, 0))
  row : ∀ i, i < k → W.heap[w.heap.size + 1 + i]? = some (.cells (List.replicate n (Value.bool false)).toArray 4 (0, 0))
theorem RelPart.next {w W : World} {n k : Nat} (h : RelPart w W n k) (hk : k < n) :
    RelPart w ((W.alloc (.cells (madeCells #[.bool false] n) 4)).setCell ⟨w.heap.size, k, none⟩ (.slice (some ⟨W.heap.size, 0, none⟩) n n)) n (k + 1) := by
  have hlt : w.heap.size < W.heap.size := by rw [h.size]; omega
  have hb : (W.alloc (.cells (madeCells #[.bool false] n) 4)).heap[w.heap.size]? = W.heap[w.heap.size]? := Below.heap_alloc _ _ _ hlt
  refine ⟨(h.below.alloc h.below.size _).setCell (p := ⟨w.heap.size, k, none⟩) (Nat.le_refl _) _, ?_, ?_, fun i hi => ?_⟩
  · rw [World.size_setCell]
    simp [h.size]; omega
  · have h1 : ((W.alloc (.cells (madeCells #[.bool false] n) 4)).setCell ⟨w.heap.size, k, none⟩ (.slice (some ⟨W.heap.size, 0, none⟩) n n)).heap[w.heap.size]? = some (.cells ((((List.range k).map fun i => Value.slice (some ⟨w.heap.size + 1 + i, 0, none⟩) n n) ++ List.replicate (n - k) (Value.slice none 0 0)).toArray.setIfInBounds k (.slice (some ⟨W.heap.size, 0, none⟩) n n)) 153 (0, 0)) := by
      simp only [World.setCell, Array.getElem?_modify, if_pos rfl, hb, h.top]
      rfl
    rw [h1]
    congr 2
    rw [h.size, List.range_succ, List.map_append]
    obtain ⟨m, hm⟩ : ∃ m, n - k = m + 1 := ⟨n - k - 1, by omega⟩
    rw [hm, show n - (k + 1) = m by omega, List.replicate_succ]
    simp
  · rw [Below.heap_setCell _ _ _ _ (by show w.heap.size + 1 + i ≠ w.heap.size; omega)]
    by_cases e : i = k
    · subst e
      rw [← h.size, heap_alloc_new, made_rep]
    · rw [Below.heap_alloc _ _ _ (by rw [h.size]; omega)]
      exact h.row i (by omega)
set_option maxRecDepth 100000 in
set_option maxHeartbeats 4000000 in
theorem emptyRelation_any (n : Nat) (hn : n ≤ 9) (w : World) :
    Calls Try.prog 193 #[.int .i64 n] w fun e w' => e = .returned (.slice (some ⟨w.heap.size, 0, none⟩) n n) ∧ RelW w' w.heap.size n (fun _ _ => false) ∧ w'.heap.size = w.heap.size + 1 + n ∧ Below w.heap.size w w' := by
  have mk1 : ∀ W : World, (Instr.makeSlice 99 (.int .i64 (n : Int)) (.int .i64 (n : Int))).run Try.prog W = .ok (.slice (some ⟨W.heap.size, 0, none⟩) n n) (W.alloc (.cells (madeCells #[.slice none 0 0] n) 153)) :=
    fun W => run_make_row' 99 153 (.slice none 0 0) 24 Try.underlying99 (by kernel_rfl) rfl .i64 .i64 n (by omega) (by omega) W
  have mk2 : ∀ W : World, (Instr.makeSlice 153 (.int .i64 (n : Int)) (.int .i64 (n : Int))).run Try.prog W = .ok (.slice (some ⟨W.heap.size, 0, none⟩) n n) (W.alloc (.cells (madeCells #[.bool false] n) 4)) :=
    fun W => run_make_row' 153 4 (.bool false) 1 Try.underlying153 (by kernel_rfl) rfl .i64 .i64 n (by omega) (by omega) W
  go_enter Try.func193, Try.ntmps193
  go_wp2
  go_loopw [9] (fun i wr => ∃ k : Nat, i = .int .i64 k ∧ k ≤ n ∧ Aside0 (RelPart w wr n k)) (fun i _ => n - (intOf i).toNat)
  case atStart =>
    refine ⟨0, rfl, Nat.zero_le _, ⟨(Below.refl _ _).alloc (Nat.le_refl _) _, by simp, ?_, fun i hi => absurd hi (by omega)⟩⟩
    rw [heap_alloc_new, made_rep]; rfl
  case round =>
    obtain ⟨k, rfl, hk, HR⟩ := hrel
    by_cases hlt : (k : Int) < (n : Int)
    · have hkn : k < n := by omega
      have hgl : w.heap.size < wr.heap.size := by rw [HR.out.size]; omega
      have hb : (wr.alloc (.cells (madeCells #[.bool false] n) 4)).heap[w.heap.size]? = wr.heap[w.heap.size]? := Below.heap_alloc _ _ _ hgl
      have hc1 : (wr.alloc (.cells (madeCells #[.bool false] n) 4)).cell? ⟨w.heap.size, k, none⟩ = some (.slice none 0 0) := by
        rw [Lib.cell_of_heap (hb.trans HR.out.top)]
        rw [List.getElem?_toArray, List.getElem?_append_right (by simp), List.length_map, List.length_range, Nat.sub_self, List.getElem?_replicate, if_pos (by omega)]
      have hz1 : (wr.alloc (.cells (madeCells #[.bool false] n) 4)).frozen? ⟨w.heap.size, k, none⟩ = false := Lib.frozen_of_heap (hb.trans HR.out.top) k
      have hr0 : (0 : Int) ≤ (k : Int) := by omega
      clear hb hgl
      go_wp2
      go_round
      case rel => exact ⟨k + 1, by go_num, by omega, ⟨HR.out.next hkn⟩⟩
      case measure => simp [intOf]; omega
    · obtain rfl : k = n := by omega
      go_wp2
      go_ret
      refine ⟨rfl, ⟨?_, fun i hi => ?_⟩, HR.out.size, HR.out.below⟩
      · have := HR.out.top
        rw [Nat.sub_self, List.replicate_zero, List.append_nil] at this
        exact this
      · rw [HR.out.row i hi]
        have e : boolRow (fun _ _ => false) k i = List.replicate k (Value.bool false) := by
          unfold boolRow
          rw [List.map_const', List.length_range]
        rw [e]
end Go.Proofs.Ytdhnjecbdclmaaa
end
section
namespace Go.Proofs.Ytdhnjecbdclmaaa
set_option linter.unusedVariables false
set_option linter.unusedSimpArgs false
def bRound (k a : Nat) (R : Nat → Nat → Bool) : Nat → Nat → Nat → Bool
  | 0 => R
  | b + 1 => setR (bRound k a R b) a b (bRound k a R b a b || bRound k a R b a k && bRound k a R b k b)
def aRound (n k : Nat) (R : Nat → Nat → Bool) : Nat → Nat → Nat → Bool
  | 0 => R
  | a + 1 => bRound k a (aRound n k R a) n
def kRound (n : Nat) (R : Nat → Nat → Bool) : Nat → Nat → Nat → Bool
  | 0 => R
  | k + 1 => aRound n k (kRound n R k) n
theorem bRound_eq (k a : Nat) (R : Nat → Nat → Bool) : ∀ m x y, bRound k a R m x y = if x = a ∧ y < m then R a y || (R a k && R k y) else R x y := by
  intro m
  induction m with
  | zero => intro x y; rw [if_neg (by omega)]; rfl
  | succ m ih =>
    intro x y
    show setR (bRound k a R m) a m _ x y = _
    unfold setR
    by_cases hx : x = a
    · subst hx
      by_cases hy : y = m
      · subst hy
        rw [if_pos ⟨rfl, rfl⟩, if_pos ⟨rfl, by omega⟩, ih x y, ih x k, ih k y, if_neg (show ¬ (x = x ∧ y < y) by omega), if_neg (show ¬ (k = x ∧ y < y) by omega)]
        by_cases hk : k < y
        · rw [if_pos ⟨rfl, hk⟩]
          cases R x y <;> cases R x k <;> cases R k k <;> cases R k y <;> rfl
        · rw [if_neg (by omega)]
      · rw [if_neg (by omega), ih x y]
        by_cases h1 : y < m
        · rw [if_pos ⟨rfl, h1⟩, if_pos ⟨rfl, by omega⟩]
        · rw [if_neg (by omega), if_neg (by omega)]
    · rw [if_neg (by omega), ih x y, if_neg (by omega), if_neg (by omega)]
theorem aRound_eq {n k : Nat} (hk : k < n) (R : Nat → Nat → Bool) : ∀ m, EqR n (aRound n k R m) (closeA R k m) := by
  intro m
  induction m with
  | zero => intro x y _ _; rfl
  | succ m ih =>
    intro x y hx hy
    show bRound k m (aRound n k R m) n x y = closeRow (closeA R k m) k m x y
    rw [bRound_eq]
    unfold closeRow
    by_cases e : x = m
    · subst e
      rw [if_pos ⟨rfl, hy⟩, if_pos rfl, ih x y hx hy, ih x k hx hk, ih k y hk hy]
    · rw [if_neg (by omega), if_neg e, ih x y hx hy]
theorem kRound_eq {n : Nat} (R : Nat → Nat → Bool) : ∀ k, k ≤ n → EqR n (kRound n R k) (closeK n R k) := by
  intro k
  induction k with
  | zero => intro _ x y _ _; rfl
  | succ k ih =>
    intro hk x y hx hy
    show aRound n k (kRound n R k) n x y = closeA (closeK n R k) k n x y
    rw [aRound_eq (by omega) _ n x y hx hy]
    exact closeA_cong (ih (by omega)) (by omega) n x y hx hy
theorem kRound_close (n : Nat) (R : Nat → Nat → Bool) : EqR n (kRound n R n) (closeB n R) := kRound_eq R n (Nat.le_refl _)
end Go.Proofs.Ytdhnjecbdclmaaa
end
section
namespace Go.Proofs.Ytdhnjecbdclmaaa
open Go.RowKit Go.Shelf Go.Proofs.YtdhnjecbdclmaaaW.PrintWords Go.Proofs.YtdhnjecbdclmaaaW.PrintMore
set_option linter.unusedVariables false
set_option linter.unusedSimpArgs false
theorem wpStill_at {P : Program} {ops : Array Oper} {w : World} {Q : Act → Prop} {a : Act} {o : Oper} {rest : List Oper} (v : Value) (hw : Region.wanted o (yielded ops a.tmps) = true) (he : (execOp a.eval o).run P w = .ok (.value v) w) (h : wpStill P ops w Q rest (a.put o.dst v)) : wpStill P ops w Q (o :: rest) a := by
  unfold wpStill
  rw [if_pos hw]
  unfold Oper.still
  rw [he, Oper.stillUpon_value]
  exact h
theorem wpStill_off {P : Program} {ops : Array Oper} {w : World} {Q : Act → Prop} {a : Act} {o : Oper} {rest : List Oper} (hw : Region.wanted o (yielded ops a.tmps) = false) (h : wpStill P ops w Q rest (a.put o.dst undef)) : wpStill P ops w Q (o :: rest) a := by
  unfold wpStill
  rw [if_neg (by rw [hw]; decide)]
  exact h
theorem wpStill_on {P : Program} {ops : Array Oper} {w : World} {Q : Act → Prop} {a : Act} {o : Oper} {rest : List Oper} (hw : Region.wanted o (yielded ops a.tmps) = true) (h : ∀ K : Act → Prop, (∀ a, wpStill P ops w Q rest a → K a) → o.still P a w K) : wpStill P ops w Q (o :: rest) a := by
  unfold wpStill
  rw [if_pos hw]
  exact h _ (fun _ h => h)
def KeepG (g n : Nat) (w W : World) : Prop := Below g w W ∧ ∀ j, g + n < j → W.heap[j]? = w.heap[j]?
theorem RelW.drewN {W : World} {g n : Nat} {R : Nat → Nat → Bool} (h : RelW W g n R) (q : Nat) : RelW (W.drewN q) g n R := ⟨h.top, h.row⟩
set_option maxRecDepth 100000 in
set_option maxHeartbeats 8000000 in
theorem close_any (g n : Nat) (hn : n ≤ 9) (R : Nat → Nat → Bool) (w : World) (hR : RelW w g n R) :
    Calls Try.prog 195 #[.slice (some ⟨g, 0, none⟩) n n] w fun e w' => e = .returned (.tuple #[]) ∧ RelW w' g n (kRound n R n) ∧ KeepG g n w w' := by
  have HR := Aside0.mk hR
  clear hR
  go_enter Try.func195, Try.ntmps195
  go_wp2_with fail
  go_loopg [7] n (fun gg s7 wr => ∃ k : Nat, s7 = .int .i64 k ∧ k ≤ n ∧ n - k ≤ gg ∧ Aside0 (RelW wr g n (kRound n R k) ∧ KeepG g n w wr))
  case atStart => exact ⟨0, rfl, by omega, by omega, ⟨HR.out, Below.refl _ _, fun _ _ => rfl⟩⟩
  case round =>
    obtain ⟨k, rfl, hk, hg, HK⟩ := hrel
    by_cases hkl : (k : Int) < (n : Int)
    · have hkn : k < n := by omega
      have k0 : (0 : Int) ≤ (k : Int) := by omega
      go_wp2_with fail
      go_loopg [12] n (fun gg s12 wr => ∃ a : Nat, s12 = .int .i64 a ∧ a ≤ n ∧ n - a ≤ gg ∧ Aside0 (RelW wr g n (aRound n k (kRound n R k) a) ∧ KeepG g n w wr))
      case atStart => exact ⟨0, rfl, by omega, by omega, HK⟩
      case round =>
        obtain ⟨a, rfl, ha, hg2, HA⟩ := hrel
        by_cases hal : (a : Int) < (n : Int)
        · have han : a < n := by omega
          have a0 : (0 : Int) ≤ (a : Int) := by omega
          go_wp2_with fail
          go_loopg [17] n (fun gg s17 wr => ∃ b : Nat, s17 = .int .i64 b ∧ b ≤ n ∧ n - b ≤ gg ∧ Aside0 (RelW wr g n (bRound k a (aRound n k (kRound n R k) a) b) ∧ KeepG g n w wr))
          case atStart => exact ⟨0, rfl, by omega, by omega, HA⟩
          case round =>
            obtain ⟨b, rfl, hb, hg3, HB⟩ := hrel
            by_cases hbl : (b : Int) < (n : Int)
            · have hbn : b < n := by omega
              have b0 : (0 : Int) ≤ (b : Int) := by omega
              obtain ⟨Q, hQ⟩ : ∃ Q, bRound k a (aRound n k (kRound n R k) a) b = Q := ⟨_, rfl⟩
              have hQs : bRound k a (aRound n k (kRound n R k) a) (b + 1) = setR Q a b (Q a b || Q a k && Q k b) := by
                rw [← hQ]; rfl
              rw [hQ] at HB
              have c1 := HB.out.1.cell han
              have c2 := HB.out.1.cell hkn
              obtain ⟨f1, z1⟩ := HB.out.1.at han hbn
              have f2 := (HB.out.1.at han hkn).1
              have f3 := (HB.out.1.at hkn hbn).1
              clear hQ
              have HN : Aside0 (∀ (W : World) (v : Bool), (Q a b || Q a k && Q k b) = v → RelW W g n Q ∧ KeepG g n w W → RelW ((W.drewN 1).setCell ⟨g + 1 + a, b, none⟩ (.bool v)) g n (bRound k a (aRound n k (kRound n R k) a) (b + 1)) ∧ KeepG g n w ((W.drewN 1).setCell ⟨g + 1 + a, b, none⟩ (.bool v))) := ⟨fun W v hv h => by
                rw [hQs, hv]
                exact ⟨(h.1.drewN 1).set han hbn v, Below.setCell (p := ⟨g + 1 + a, b, none⟩) (show Below g w (W.drewN 1) from ⟨h.2.1.os, h.2.1.tape, h.2.1.output, h.2.1.size, h.2.1.block⟩) (by show g ≤ g + 1 + a; omega) _, fun j hj => by
                  rw [Below.heap_setCell _ _ _ _ (by show j ≠ g + 1 + a; omega)]
                  exact h.2.2 j hj⟩⟩
              clear hQs
              cases x1 : Q a b with
              | true =>
                rw [x1] at f1 HN
                rw [Bool.true_or] at HN
                clear x1 f2 f3 c2
                go_wp2_with fail
                refine wp_still_tail 31 (by kernel_rfl) (by kernel_rfl) ?_
                simp only [List.take_succ_cons, List.take_zero, List.drop_succ_cons, List.drop_zero]
                iterate 13 (refine @wpStill_on _ _ _ _ _ _ _ ?_ ?_; (· kernel_rfl); (intro K hK; go_simp; refine hK _ ?_; clear hK K))
                iterate 16 (refine @wpStill_off _ _ _ _ _ _ _ ?_ ?_; · kernel_rfl)
                iterate 2 (refine @wpStill_on _ _ _ _ _ _ _ ?_ ?_; (· kernel_rfl); (intro K hK; go_simp; refine hK _ ?_; clear hK K))
                refine @wpStill_nil _ _ _ _ _ ?_
                go_wp2_with fail
                go_roundg (n - (b + 1))
                case measure => omega
                case rel => exact ⟨b + 1, by go_num, by omega, Nat.le_refl _, ⟨HN.out wr true rfl HB.out⟩⟩
              | false =>
                cases x2 : Q a k with
                | false =>
                  rw [x1] at f1 HN
                  rw [x2] at f2 HN
                  rw [Bool.false_and, Bool.false_or] at HN
                  clear x1 x2 f3
                  go_wp2_with fail
                  refine wp_still_tail 31 (by kernel_rfl) (by kernel_rfl) ?_
                  simp only [List.take_succ_cons, List.take_zero, List.drop_succ_cons, List.drop_zero]
                  iterate 21 (refine @wpStill_on _ _ _ _ _ _ _ ?_ ?_; (· kernel_rfl); (intro K hK; go_simp; refine hK _ ?_; clear hK K))
                  iterate 7 (refine @wpStill_off _ _ _ _ _ _ _ ?_ ?_; · kernel_rfl)
                  iterate 3 (refine @wpStill_on _ _ _ _ _ _ _ ?_ ?_; (· kernel_rfl); (intro K hK; go_simp; refine hK _ ?_; clear hK K))
                  refine @wpStill_nil _ _ _ _ _ ?_
                  go_wp2_with fail
                  go_roundg (n - (b + 1))
                  case measure => omega
                  case rel => exact ⟨b + 1, by go_num, by omega, Nat.le_refl _, ⟨HN.out wr false rfl HB.out⟩⟩
                | true =>
                  obtain ⟨v3, hv3⟩ : ∃ v, Q k b = v := ⟨_, rfl⟩
                  rw [hv3] at f3 HN
                  rw [x1] at f1 HN
                  rw [x2] at f2 HN
                  rw [Bool.true_and, Bool.false_or] at HN
                  clear x1 x2 hv3
                  go_wp2_with fail
                  refine wp_still_tail 31 (by kernel_rfl) (by kernel_rfl) ?_
                  simp only [List.take_succ_cons, List.take_zero, List.drop_succ_cons, List.drop_zero]
                  iterate 31 (refine @wpStill_on _ _ _ _ _ _ _ ?_ ?_; (· kernel_rfl); (intro K hK; go_simp; refine hK _ ?_; clear hK K))
                  refine @wpStill_nil _ _ _ _ _ ?_
                  go_wp2_with fail
                  go_roundg (n - (b + 1))
                  case measure => omega
                  case rel => exact ⟨b + 1, by go_num, by omega, Nat.le_refl _, ⟨HN.out wr v3 rfl HB.out⟩⟩
            · obtain rfl : b = n := by omega
              go_wp2_with fail
              go_roundg (b - (a + 1))
              case measure => omega
              case rel => exact ⟨a + 1, by go_num, by omega, Nat.le_refl _, HB⟩
        · obtain rfl : a = n := by omega
          go_wp2_with fail
          go_roundg (a - (k + 1))
          case measure => omega
          case rel => exact ⟨k + 1, by go_num, by omega, Nat.le_refl _, HA⟩
    · obtain rfl : k = n := by omega
      go_wp2_with fail
      go_end0
      exact ⟨rfl, HK.out.1, HK.out.2⟩
end Go.Proofs.Ytdhnjecbdclmaaa
end
section
namespace Go.Proofs.Ytdhnjecbdclmaaa
open Go.RowKit Go.Shelf Go.Proofs.YtdhnjecbdclmaaaW.PrintWords Go.Proofs.YtdhnjecbdclmaaaW.PrintMore
set_option linter.unusedVariables false
set_option linter.unusedSimpArgs false
theorem sort4_any (B : Nat) (a b c d : Int) (w : World) (hB : w.heap[B]? = some (.cells #[.int .i64 a, .int .i64 b, .int .i64 c, .int .i64 d] 3 (0, 0))) :
    Calls Try.prog 158 #[.slice (some ⟨B, 0, none⟩) 4 4] w fun e w' => e = .returned (.tuple #[]) ∧ w.grownBy w' (some B) ∧ Go.Sort.Holds (Value.int .i64) w' B 0 ([a, b, c, d].mergeSort fun x y => decide (x ≤ y)).toArray := by
  have hH : Go.Sort.Holds (Value.int .i64) w B 0 [a, b, c, d].toArray := holds_of_blockI hB rfl
  have hlt : B < w.heap.size := (Array.getElem?_eq_some_iff.1 hB).1
  refine (Try.slices_Sort_int B 0 4 [a, b, c, d] w hH hlt (by show 4 < _; omega)).mono ?_
  rintro e w' ⟨rfl, n, os, rfl⟩
  refine ⟨rfl, grownBy_sortedI _, Go.Sort.holds_grow _ _ _ _ _ _ (by simpa using hlt) (Go.Sort.holds_putRow _ _ _ _ _ _ (Go.Sort.holds_ahead _ _ _ _ _ _ hH) ?_)⟩
  rw [List.size_toArray, List.size_toArray, (List.mergeSort_perm _ _).length_eq]
theorem compact4_any (B : Nat) (zs : List Int) (h4 : zs.length = 4) (w : World) (hH : Go.Sort.Holds (Value.int .i64) w B 0 zs.toArray) :
    Calls Try.prog 159 #[.slice (some ⟨B, 0, none⟩) 4 4] w fun e w' => e = .returned (.slice (some ⟨B, 0, none⟩) (Lib.compact zs).length 4) ∧ w.grownBy w' (some B) := by
  have h := Try.slices_Compact_int B 0 4 zs w hH (by omega) (by omega)
  rw [h4] at h
  refine h.mono ?_
  rintro e w' ⟨rfl, q, rfl⟩
  refine ⟨rfl, ?_⟩
  have := grownBy_sortedI (w := w) (g := B) (n := q) (os := #[]) (Lib.compact zs ++ List.replicate (4 - (Lib.compact zs).length) 0).toArray
  rwa [Go.Sort.grow_empty] at this
theorem rowPts_split (G : Nat → Nat → Int) (many : Int) (i : Nat) {j w : Nat} (h : j < w) : rowPts G many i j (w - j) = (if ((meets G i j : Nat) : Int) = many then 1 else 0) + rowPts G many i (j + 1) (w - (j + 1)) := by
  rw [show w - j = (w - (j + 1)) + 1 by omega]; rfl
theorem allPts_split (G : Nat → Nat → Int) (w : Nat) (many : Int) {i h : Nat} (hi : i < h) : allPts G w many i (h - i) = rowPts G many i 1 (w - 1) + allPts G w many (i + 1) (h - (i + 1)) := by
  rw [show h - i = (h - (i + 1)) + 1 by omega]; rfl
set_option maxRecDepth 100000 in
set_option maxHeartbeats 16000000 in
theorem points_any (fb h wd : Nat) (cl : Nat → Nat → Int) (boxes : List Box) (hh : 1 ≤ h ∧ h ≤ 6) (hw : 1 ≤ wd ∧ wd ≤ 6) (w : World) (hf : FloorR w fb h wd cl boxes) (many : Int) :
    Calls Try.prog 85 #[.pointer (some ⟨fb, 0, none⟩), .int .i64 many] w fun e w' => e = .returned (.int .i64 ((allPts cl wd many 1 (h - 1) : Nat) : Int)) ∧ Below w.heap.size w w' := by
  have hT : allPts cl wd many 1 (h - 1) ≤ 25 := by
    have h1 := allPts_le cl wd many (h - 1) 1
    have h2 : (h - 1) * (wd - 1) ≤ 5 * 5 := Nat.mul_le_mul (by omega) (by omega)
    omega
  obtain ⟨T, hTT⟩ : ∃ T, allPts cl wd many 1 (h - 1) = T := ⟨_, rfl⟩
  rw [hTT] at hT ⊢
  have HT := Aside0.mk hTT
  have HF := Aside0.mk hf
  clear hTT hf
  have HHI : Aside0 (∀ W, Below w.heap.size w W → Calls Try.prog 120 #[.pointer (some ⟨fb, 0, none⟩)] W fun e w' => e = .returned (.int .i64 h) ∧ w' = W) := ⟨fun W hW => by
    obtain ⟨g, rb, RA, rc, h1, h2, h3, h4, h5, h6⟩ := HF.out
    exact high_any _ _ h h W ((hW.cell (p := ⟨fb, 0, none⟩) h1).trans h3)⟩
  have HWI : Aside0 (∀ W, Below w.heap.size w W → Calls Try.prog 113 #[.pointer (some ⟨fb, 0, none⟩)] W fun e w' => e = .returned (.int .i64 wd) ∧ w' = W) := ⟨fun W hW => by
    obtain ⟨g, rb, RA, rc, h1, h2, h3, h4, h5, h6⟩ := HF.out
    obtain ⟨b1, b2, b3⟩ := h5 0 (by omega)
    exact wide_any _ g h h hh.1 _ wd wd W ((hW.cell (p := ⟨fb, 0, none⟩) h1).trans h3) ((hW.cell (p := ⟨g, 0, none⟩) h2).trans b2)⟩
  go_enter Try.func85, Try.ntmps85
  go_wp2
  go_loopw [5, 6] (fun s r wr => ∃ (i sm : Nat), r = .int .i64 i ∧ 1 ≤ i ∧ i ≤ h ∧ s = .int .i64 sm ∧ sm ≤ 25 ∧ Aside0 (sm + allPts cl wd many i (h - i) = T ∧ Below w.heap.size w wr)) (fun _ r _ => h - (intOf r).toNat)
  case atStart => exact ⟨1, 0, rfl, Nat.le_refl _, hh.1, rfl, by omega, ⟨by rw [Nat.zero_add]; exact HT.out, Below.refl _ _⟩⟩
  case round =>
    obtain ⟨i, sm, rfl, hi1, hih, rfl, hsm, HD⟩ := hrel
    obtain ⟨wo, rfl⟩ : ∃ wo : World, wo = wr := ⟨_, rfl⟩
    by_cases hlt : (i : Int) < (h : Int)
    · have hsp := allPts_split cl wd many (show i < h by omega)
      have HSP := Aside0.mk hsp
      clear hsp
      go_wp2_with fail
      refine (HHI.out _ HD.out.2).mono ?_
      rintro e w2 ⟨rfl, rfl⟩
      go_wp2
      go_loopw [5, 7] (fun s c w2 => ∃ (j sn : Nat), c = .int .i64 j ∧ 1 ≤ j ∧ j ≤ wd ∧ s = .int .i64 sn ∧ sn ≤ 25 ∧ Aside0 (sn + rowPts cl many i j (wd - j) + allPts cl wd many (i + 1) (h - (i + 1)) = T ∧ Below w.heap.size w w2)) (fun _ c _ => wd - (intOf c).toNat)
      case atStart => exact ⟨1, sm, rfl, Nat.le_refl _, hw.1, rfl, hsm, ⟨by have h1 := HD.out.1; have h2 := HSP.out; omega, HD.out.2⟩⟩
      case round =>
        obtain ⟨j, sn, rfl, hj1, hjw, rfl, hsn, HE⟩ := hrel
        by_cases hlj : (j : Int) < (wd : Int)
        · have hrs := rowPts_split cl many i (show j < wd by omega)
          have hfd := four_distinct (cl (i - 1) (j - 1)) (cl (i - 1) j) (cl i (j - 1)) (cl i j)
          obtain ⟨a, ha⟩ : ∃ a, cl (i - 1) (j - 1) = a := ⟨_, rfl⟩
          obtain ⟨b, hb⟩ : ∃ a, cl (i - 1) j = a := ⟨_, rfl⟩
          obtain ⟨c, hc⟩ : ∃ a, cl i (j - 1) = a := ⟨_, rfl⟩
          obtain ⟨d, hd⟩ : ∃ a, cl i j = a := ⟨_, rfl⟩
          have hm : meets cl i j = (firsts4 a b c d).length := by unfold meets; rw [ha, hb, hc, hd]
          rw [hm] at hrs
          rw [ha, hb, hc, hd] at hfd
          obtain ⟨g, rb, RA, rc, h1, h2, h3, h4, h5, h6⟩ := HF.out.below HE.out.2
          obtain ⟨a1, a2, a3⟩ := h5 (i - 1) (by omega)
          obtain ⟨b1, b2, b3⟩ := h5 i (by omega)
          have f1 := a3 (j - 1) (by omega)
          have f2 := a3 j (by omega)
          have f3 := b3 (j - 1) (by omega)
          have f4 := b3 j (by omega)
          rw [ha] at f1
          rw [hb] at f2
          rw [hc] at f3
          rw [hd] at f4
          have HRS := Aside0.mk hrs
          have HFD := Aside0.mk hfd
          clear hrs hfd ha hb hc hd hm h1 h2 h4 h5 h6 a1 a3 b1 b3
          obtain ⟨q1, hq1⟩ : ∃ q, rb (i - 1) = q := ⟨_, rfl⟩
          obtain ⟨q2, hq2⟩ : ∃ q, rb i = q := ⟨_, rfl⟩
          rw [hq1] at a2 f1 f2
          rw [hq2] at b2 f3 f4
          clear hq1 hq2
          have e1 : ((i : Int) - 1) = ((i - 1 : Nat) : Int) := by omega
          have e2 : ((j : Int) - 1) = ((j - 1 : Nat) : Int) := by omega
          have v1 : IntKind.i64.wrap ((i - 1 : Nat) : Int) = ((i - 1 : Nat) : Int) := by rw [IntKind.wrap_i64]; omega
          have v2 : IntKind.i64.wrap ((j - 1 : Nat) : Int) = ((j - 1 : Nat) : Int) := by rw [IntKind.wrap_i64]; omega
          have n1 : (0 : Int) ≤ ((i - 1 : Nat) : Int) := by omega
          have n2 : ((i - 1 : Nat) : Int) < (h : Int) := by omega
          have n3 : (0 : Int) ≤ ((j - 1 : Nat) : Int) := by omega
          have n4 : ((j - 1 : Nat) : Int) < (wd : Int) := by omega
          go_wp2_with fail
          refine (HWI.out _ HE.out.2).mono ?_
          rintro e w3 ⟨rfl, rfl⟩
          go_wp2_with fail
          refine wp_still_tail 44 (by kernel_rfl) (by kernel_rfl) ?_
          simp only [List.take_succ_cons, List.take_zero, List.drop_succ_cons, List.drop_zero]
          repeat still_step
          refine wpStill_nil ?_
          go_wp2_with fail
          refine Calls.mono (sort4_any w3.heap.size a b c d _ ?hB) ?_
          case hB => exact heap_alloc_new _ _
          rintro e w4 ⟨rfl, hg4, hh4⟩
          have HB4 : Aside0 (Below w.heap.size w w4) := ⟨Below.grown (by repeat (first | exact HE.out.2 | apply pw_below_drewN | apply below_alloc)) hg4 (by have := HE.out.2.size; simp; omega) (fun j e => by injection e with e; have := HE.out.2.size; omega)⟩
          have hcp := compact4_any w3.heap.size _ (by rw [(List.mergeSort_perm _ _).length_eq]; rfl) w4 hh4
          rw [HFD.out] at hcp
          obtain ⟨M, hM⟩ : ∃ M, (firsts4 a b c d).length = M := ⟨_, rfl⟩
          have hrs := HRS.out
          rw [hM] at hcp hrs
          have HCP := Aside0.mk hcp
          have HRM := Aside0.mk hrs
          clear hg4 hh4 hcp hrs hM HRS HFD f1 f2 f3 f4 a2 b2 h3 e1 e2 v1 v2 n1 n2 n3 n4
          by_cases hmm : (M : Int) = many
          · have t1 : ((M : Int) == many) = true := by rw [beq_iff_eq]; exact hmm
            have HMM := Aside0.mk hmm
            clear hmm
            go_wp2_with fail
            refine HCP.out.mono ?_
            rintro e w5 ⟨rfl, hg5⟩
            have HB5 : Aside0 (Below w.heap.size w w5) := ⟨HB4.out.grown hg5 HB4.out.size (fun j e => by injection e with e; have := HE.out.2.size; omega)⟩
            clear hg5
            have hr := HRM.out
            rw [if_pos HMM.out] at hr
            have hs1 : sn + 1 + rowPts cl many i (j + 1) (wd - (j + 1)) + allPts cl wd many (i + 1) (h - (i + 1)) = T := by have := HE.out.1; omega
            have hs2 : sn + 1 ≤ 25 := by omega
            have HS1 := Aside0.mk hs1
            clear hr hs1
            go_wp2
            go_roundw
            case rel => exact ⟨j + 1, sn + 1, by go_num, by omega, by omega, by go_num, hs2, ⟨HS1.out, HB5.out⟩⟩
            case measure => simp [intOf]; omega
          · have t1 : ((M : Int) == many) = false := by rw [beq_eq_false_iff_ne]; exact hmm
            have HMM := Aside0.mk hmm
            clear hmm
            go_wp2_with fail
            refine HCP.out.mono ?_
            rintro e w5 ⟨rfl, hg5⟩
            have HB5 : Aside0 (Below w.heap.size w w5) := ⟨HB4.out.grown hg5 HB4.out.size (fun j e => by injection e with e; have := HE.out.2.size; omega)⟩
            clear hg5
            have hr := HRM.out
            rw [if_neg HMM.out, Nat.zero_add] at hr
            have hs1 : sn + rowPts cl many i (j + 1) (wd - (j + 1)) + allPts cl wd many (i + 1) (h - (i + 1)) = T := by have := HE.out.1; omega
            have HS1 := Aside0.mk hs1
            clear hr hs1
            go_wp2
            go_roundw
            case rel => exact ⟨j + 1, sn, by go_num, by omega, by omega, rfl, hsn, ⟨HS1.out, HB5.out⟩⟩
            case measure => simp [intOf]; omega
        · have hjw2 : j = wd := by omega
          have hs1 : sn + allPts cl wd many (i + 1) (h - (i + 1)) = T := by
            have := HE.out.1
            rw [hjw2, Nat.sub_self] at this
            exact this
          have HS1 := Aside0.mk hs1
          clear hs1
          go_wp2_with fail
          refine (HWI.out _ HE.out.2).mono ?_
          rintro e w3 ⟨rfl, rfl⟩
          clear hjw2
          go_wp2
          go_roundw
          case rel => exact ⟨i + 1, sn, by go_num, by omega, by omega, rfl, hsn, ⟨HS1.out, HE.out.2⟩⟩
          case measure => simp [intOf]; omega
    · have hs1 : sm = T := by
        have := HD.out.1
        rw [show h - i = 0 by omega] at this
        exact this
      go_wp2_with fail
      refine (HHI.out _ HD.out.2).mono ?_
      rintro e w3 ⟨rfl, rfl⟩
      have HS1 := Aside0.mk hs1
      clear hs1
      go_wp2
      go_ret
      exact ⟨rfl, HD.out.2⟩
end Go.Proofs.Ytdhnjecbdclmaaa
end
section
namespace Go.Proofs.Ytdhnjecbdclmaaa
open Go.RowKit Go.Shelf Go.Proofs.YtdhnjecbdclmaaaW.PrintWords Go.Proofs.YtdhnjecbdclmaaaW.PrintMore
set_option linter.unusedVariables false
set_option linter.unusedSimpArgs false
def pointsP (p : List ByteArray) (many : Int) : Int := ((allPts (clP p) (wdP p) many 1 (p.length - 1) : Nat) : Int)
def plainP (p : List ByteArray) : Bool := planG p && (pointsP p 4 == 0)
theorem allPts_same {G G' : Nat → Nat → Int} {w : Nat} {many : Int} {d i : Nat} (h : ∀ y x, y < d → x < w - 1 → ptI G many (i + y) (1 + x) = ptI G' many (i + y) (1 + x)) : allPts G w many i d = allPts G' w many i d := by
  rw [allPts_sum, allPts_sum]
  exact sumTo_same fun y hy => sumTo_same fun x hx => h y x hy hx
theorem pts_ev {p : List ByteArray} (h : planG p = true) (many : Int) : Ev (fun k => L7.spec_l2Points.f k p many) (pointsP p many) := by
  have := points_f (planTG h) many
  have e : allPts (gridOf (clP p) 0 0) (wdP p) many 1 (p.length - 1) = allPts (clP p) (wdP p) many 1 (p.length - 1) := allPts_same fun y x hy hx => by
    unfold ptI
    rw [show meets (gridOf (clP p) 0 0) (1 + y) (1 + x) = meets (clP p) (1 + y) (1 + x) from meets_move (clP p) (1 + y) (1 + x) (by omega) (by omega)]
  rw [e] at this
  exact this
theorem planIn_ev (p : List ByteArray) (hp : SmallP p) : Ev (fun _ : Nat => spec_PlanIn.f p) (planG p) := ⟨0, fun k _ => by unfold spec_PlanIn.f; rw [if_pos hp]⟩
theorem spec_WallPlain_ev (p : List ByteArray) (hp : SmallP p) : Ev (fun k => L7.spec_WallPlain.f k p) (plainP p) := by
  have hPI := planIn_ev p hp
  unfold plainP
  cases h : planG p with
  | false =>
    rw [h] at hPI
    refine hPI.bind (F := fun k t => _) ?_
    simp only [Bool.false_eq_true, if_false]
    exact Ev.const _
  | true =>
    rw [h] at hPI
    refine hPI.bind (F := fun k t => _) ?_
    simp only [if_true]
    exact (pts_ev h 4).bind (Ev.const _)
theorem plain_any (fb h wd : Nat) (cl : Nat → Nat → Int) (boxes : List Box) (hh : 1 ≤ h ∧ h ≤ 6) (hw : 1 ≤ wd ∧ wd ≤ 6) (w : World) (hf : FloorR w fb h wd cl boxes) :
    Calls Try.prog 154 #[.pointer (some ⟨fb, 0, none⟩)] w fun e w' => e = .returned (.bool (((allPts cl wd 4 1 (h - 1) : Nat) : Int) == 0)) ∧ Below w.heap.size w w' := by
  have HPT := Aside0.mk (points_any fb h wd cl boxes hh hw w hf 4)
  clear hf
  obtain ⟨T, hT⟩ : ∃ T, allPts cl wd 4 1 (h - 1) = T := ⟨_, rfl⟩
  rw [hT] at HPT ⊢
  clear hT
  go_enter Try.func154, Try.ntmps154
  go_wp2_with fail
  refine HPT.out.mono ?_
  rintro e w2 ⟨rfl, hb2⟩
  have HB2 := Aside0.mk hb2
  clear hb2
  go_wp2_with fail
  go_ret
  exact ⟨rfl, HB2.out⟩
def PlainE (w w' : World) (p : List ByteArray) (e : Ending) : Prop := Below w.heap.size w w' ∧
  ((plainP p = true ∧ ∃ fb, e = .returned (.tuple #[.pointer (some ⟨fb, 0, none⟩), .bool true]) ∧ FloorR w' fb p.length (wdP p) (clP p) (boxesP p)) ∨
   (plainP p = false ∧ ∃ o, e = .returned (.tuple #[.pointer o, .bool false])))
set_option maxHeartbeats 4000000 in
theorem plainOf_any (A : Option Addr) (cap : Nat) (p : List ByteArray) (hp : SmallP p) (w : World) (hr0 : Kd.C Kd.string w A p.length p) (hc0 : p.length ≤ cap) :
    Calls Try.prog 83 #[.slice A p.length cap] w fun e w' => PlainE w w' p e := by
  have HFL := floorOf_any A cap p hp.1 hp.2 w hr0 hc0
  clear hr0
  go_enter Try.func83, Try.ntmps83
  go_wp2_with fail
  refine HFL.mono ?_
  rintro e w1 ⟨hb1, ⟨hpl, fb, base, rfl, hbase, hfl⟩ | ⟨hpl, o, rfl⟩⟩
  · have HB1 := Aside0.mk hb1
    have HR := Aside0.mk hfl.reads
    have hpc := plain_any fb p.length (wdP p) (clP p) (boxesP p) (planFlat hpl).high (planFlat hpl).wide w1 hfl.reads
    have hval : plainP p = (((allPts (clP p) (wdP p) 4 1 (p.length - 1) : Nat) : Int) == 0) := by unfold plainP; rw [hpl, Bool.true_and]; rfl
    rw [← hval] at hpc
    have HPC := Aside0.mk hpc
    clear hb1 hpl hfl hval hpc
    go_wp2_with fail
    refine HPC.out.mono ?_
    rintro e w2 ⟨rfl, hb2⟩
    have HB2 := Aside0.mk hb2
    clear hb2
    cases hv : plainP p with
    | true =>
      have HV := Aside0.mk hv
      clear hv
      go_wp2_with fail
      go_ret2
      exact ⟨HB1.out.trans (HB2.out.mono HB1.out.size), .inl ⟨HV.out, fb, rfl, HR.out.below HB2.out⟩⟩
    | false =>
      have HV := Aside0.mk hv
      clear hv
      go_wp2_with fail
      go_ret2
      exact ⟨HB1.out.trans (HB2.out.mono HB1.out.size), .inr ⟨HV.out, _, rfl⟩⟩
  · have HB1 := Aside0.mk hb1
    have hval : plainP p = false := by unfold plainP; rw [hpl]; rfl
    have HV := Aside0.mk hval
    clear hb1 hpl hval
    go_wp2_with fail
    go_ret2
    exact ⟨HB1.out, .inr ⟨HV.out, _, rfl⟩⟩
def spec_WallPlain.f (l0 : List ByteArray) : Option Bool := if SmallP l0 then some (plainP l0) else none
theorem spec_WallPlain.calls (A0 : Option Addr) (c0 : Nat) (l0 : List ByteArray) (r : Bool) (w : World) (hr0 : Kd.C Kd.string w A0 l0.length l0) (hc0 : l0.length ≤ c0) (h : spec_WallPlain.f l0 = some r) :
    Calls Try.prog 24 #[.slice A0 l0.length c0] w fun e w' => e = .returned (.bool r) ∧ Below w.heap.size w w' := by
  unfold spec_WallPlain.f at h
  split at h
  · rename_i hb
    injection h with h
    obtain ⟨k, hk⟩ := (spec_WallPlain_ev l0 hb).ex
    rw [h] at hk
    exact L7.spec_WallPlain.calls k A0 c0 l0 r w hr0 hc0 hk
  · cases h
end Go.Proofs.Ytdhnjecbdclmaaa
end
section
namespace Go.Proofs.Ytdhnjecbdclmaaa
open Go.RowKit Go.Shelf Go.Proofs.YtdhnjecbdclmaaaW.PrintWords Go.Proofs.YtdhnjecbdclmaaaW.PrintMore
set_option linter.unusedVariables false
set_option linter.unusedSimpArgs false
theorem FloorR.rooms {w : World} {fb h wd : Nat} {cl : Nat → Nat → Int} {boxes : List Box} (hf : FloorR w fb h wd cl boxes) : ∃ RA rc, w.cell? ⟨fb, 1, none⟩ = some (.slice RA boxes.length rc) := by
  obtain ⟨g, rb, RA, rc, h1, h2, h3, h4, h5, h6⟩ := hf
  exact ⟨RA, rc, h4⟩
end Go.Proofs.Ytdhnjecbdclmaaa
end
