/- Plain: rooms inside of a rectangle whose areas fill it are all that it touches. -/
import Derived.Test.YtdhnjecbdclmaaaKSCutStuckM
import Derived.Test.YtdhnjecbdclmaaaKSHered
namespace Go.Proofs.Ytdhnjecbdclmaaa
open Go.RowKit Go.Shelf Go.Proofs.YtdhnjecbdclmaaaW.PrintWords Go.Proofs.YtdhnjecbdclmaaaW.PrintMore
set_option linter.unusedVariables false
set_option linter.unusedSimpArgs false
def cnt1 (P : Nat → Prop) [DecidablePred P] : Nat → Nat
  | 0 => 0
  | n + 1 => cnt1 P n + if P n then 1 else 0
section
variable {P Q : Nat → Prop} [DecidablePred P] [DecidablePred Q]
theorem cnt1_le (n : Nat) : cnt1 P n ≤ n := by
  induction n with
  | zero => exact Nat.le_refl _
  | succ n ih => unfold cnt1; split <;> omega
theorem cnt1_all (n : Nat) (h : ∀ i, i < n → P i) : cnt1 P n = n := by
  induction n with
  | zero => rfl
  | succ n ih => unfold cnt1; rw [ih (fun i hi => h i (by omega)), if_pos (h n (by omega))]
theorem cnt1_full (n : Nat) (h : cnt1 P n = n) : ∀ i, i < n → P i := by
  induction n with
  | zero => intro i hi; omega
  | succ n ih =>
    have := cnt1_le (P := P) n
    unfold cnt1 at h
    intro i hi
    by_cases hp : P n
    · rw [if_pos hp] at h
      by_cases e : i = n
      · subst e; exact hp
      · exact ih (by omega) i (by omega)
    · rw [if_neg hp] at h; omega
theorem cnt1_int (a d : Nat) (n : Nat) : cnt1 (fun i => a ≤ i ∧ i < a + d) n = min n (a + d) - min n a := by
  induction n with
  | zero => simp [cnt1]
  | succ n ih =>
    unfold cnt1
    rw [ih]
    by_cases h : a ≤ n ∧ n < a + d
    · rw [if_pos h]; omega
    · rw [if_neg h]; omega
end
def sumR (g : Nat → Nat) : Nat → Nat
  | 0 => 0
  | n + 1 => sumR g n + g n
theorem sumR_le {g : Nat → Nat} {w : Nat} (h : ∀ i, g i ≤ w) (n : Nat) : sumR g n ≤ n * w := by
  induction n with
  | zero => exact Nat.zero_le _
  | succ n ih => unfold sumR; have := h n; rw [Nat.succ_mul]; omega
theorem sumR_full {g : Nat → Nat} {w : Nat} (h : ∀ i, g i ≤ w) (n : Nat) (e : sumR g n = n * w) : ∀ i, i < n → g i = w := by
  induction n with
  | zero => intro i hi; omega
  | succ n ih =>
    unfold sumR at e
    have h1 := sumR_le h n
    have h2 := h n
    rw [Nat.succ_mul] at e
    intro i hi
    by_cases ei : i = n
    · subst ei; omega
    · exact ih (by omega) i (by omega)
theorem sumR_congr {g k : Nat → Nat} (n : Nat) (h : ∀ i, i < n → g i = k i) : sumR g n = sumR k n := by
  induction n with
  | zero => rfl
  | succ n ih => unfold sumR; rw [ih (fun i hi => h i (by omega)), h n (by omega)]
theorem sumR_add (g k : Nat → Nat) (n : Nat) : sumR (fun i => g i + k i) n = sumR g n + sumR k n := by
  induction n with
  | zero => rfl
  | succ n ih => unfold sumR; rw [ih]; omega
theorem sumR_const (w : Nat) (n : Nat) : sumR (fun _ => w) n = n * w := by
  induction n with
  | zero => simp [sumR]
  | succ n ih => unfold sumR; rw [ih, Nat.succ_mul]
theorem sumR_box (a d e : Nat) (n : Nat) : sumR (fun i => if a ≤ i ∧ i < a + d then e else 0) n = (min n (a + d) - min n a) * e := by
  induction n with
  | zero => simp [sumR]
  | succ n ih =>
    unfold sumR
    rw [ih]
    by_cases h : a ≤ n ∧ n < a + d
    · rw [if_pos h, show min (n + 1) (a + d) - min (n + 1) a = (min n (a + d) - min n a) + 1 by omega, Nat.succ_mul]
    · rw [if_neg h, show min (n + 1) (a + d) - min (n + 1) a = min n (a + d) - min n a by omega]; rfl
def cellsIn (cl : Nat → Nat → Int) (r c ph pw : Nat) (L : List Int) : Nat := sumR (fun i => cnt1 (fun j => cl (r + i) (c + j) ∈ L) pw) ph
theorem cnt1_cons {cl : Nat → Nat → Int} (r c i : Nat) (x : Int) (L : List Int) (hx : x ∉ L) (n : Nat) : cnt1 (fun j => cl (r + i) (c + j) ∈ x :: L) n = cnt1 (fun j => cl (r + i) (c + j) = x) n + cnt1 (fun j => cl (r + i) (c + j) ∈ L) n := by
  induction n with
  | zero => rfl
  | succ n ih =>
    unfold cnt1
    rw [ih]
    by_cases h1 : cl (r + i) (c + n) = x
    · have h2 : ¬ cl (r + i) (c + n) ∈ L := by rw [h1]; exact hx
      rw [if_pos (List.mem_cons.2 (.inl h1)), if_pos h1, if_neg h2]; omega
    · by_cases h2 : cl (r + i) (c + n) ∈ L
      · rw [if_pos (List.mem_cons.2 (.inr h2)), if_neg h1, if_pos h2]; omega
      · rw [if_neg (fun h => (List.mem_cons.1 h).elim h1 h2), if_neg h1, if_neg h2]; omega
theorem cnt1_congr {P Q : Nat → Prop} [DecidablePred P] [DecidablePred Q] (n : Nat) (h : ∀ i, i < n → (P i ↔ Q i)) : cnt1 P n = cnt1 Q n := by
  induction n with
  | zero => rfl
  | succ n ih =>
    unfold cnt1
    rw [ih (fun i hi => h i (by omega))]
    by_cases hp : P n
    · rw [if_pos hp, if_pos ((h n (by omega)).1 hp)]
    · rw [if_neg hp, if_neg (fun hq => hp ((h n (by omega)).2 hq))]
theorem cnt1_none {P : Nat → Prop} [DecidablePred P] (n : Nat) (h : ∀ i, i < n → ¬ P i) : cnt1 P n = 0 := by
  induction n with
  | zero => rfl
  | succ n ih => unfold cnt1; rw [ih (fun i hi => h i (by omega)), if_neg (h n (by omega))]
theorem cells_room {cl : Nat → Nat → Int} {boxes : List Box} {h wd r c ph pw : Nat} (f : Flat cl boxes h wd) (hr : r + ph ≤ h) (hc : c + pw ≤ wd) (k : Nat) (hk : k < boxes.length) (hin : bothB (natB r c ph pw) boxes[k] = natB r c ph pw) :
    ((sumR (fun i => cnt1 (fun j => cl (r + i) (c + j) = (k : Int)) pw) ph : Nat) : Int) = areaB boxes[k] := by
  obtain ⟨a, b, d, e, hb, h1, h2, h3, h4, hcl⟩ := f.box k hk
  rw [hb, both_within] at hin
  rw [hb]
  have e1 : sumR (fun i => cnt1 (fun j => cl (r + i) (c + j) = (k : Int)) pw) ph = sumR (fun i => if a - r ≤ i ∧ i < a - r + d then e else 0) ph := by
    refine sumR_congr ph fun i hi => ?_
    by_cases hio : a - r ≤ i ∧ i < a - r + d
    · rw [if_pos hio, cnt1_congr (Q := fun j => b - c ≤ j ∧ j < b - c + e) pw (fun j hj => by rw [hcl (r + i) (c + j) (by omega) (by omega)]; omega), cnt1_int]
      omega
    · rw [if_neg hio]
      exact cnt1_none pw (fun j hj hcj => by rw [hcl (r + i) (c + j) (by omega) (by omega)] at hcj; omega)
  rw [e1, sumR_box, show min ph (a - r + d) - min ph (a - r) = d by omega]
  show ((d * e : Nat) : Int) = (d : Int) * (e : Int)
  rw [Int.natCast_mul]
theorem cells_sum {cl : Nat → Nat → Int} {boxes : List Box} {h wd r c ph pw : Nat} (f : Flat cl boxes h wd) (hr : r + ph ≤ h) (hc : c + pw ≤ wd) : ∀ L : List Int, L.Nodup → (∀ x ∈ L, ∃ k, ∃ hk : k < boxes.length, x = (k : Int) ∧ bothB (natB r c ph pw) boxes[k] = natB r c ph pw) →
    ((cellsIn cl r c ph pw L : Nat) : Int) = (L.map fun x => areaB (boxAt boxes x)).sum := by
  intro L
  induction L with
  | nil =>
    intro _ _
    unfold cellsIn
    rw [sumR_congr (k := fun _ => 0) ph (fun i _ => cnt1_none pw (fun j _ h => by simp at h)), sumR_const]
    rfl
  | cons x L ih =>
    intro hnd hin
    rw [List.nodup_cons] at hnd
    obtain ⟨k, hk, hx, hb⟩ := hin x (List.mem_cons.2 (.inl rfl))
    have e1 : cellsIn cl r c ph pw (x :: L) = sumR (fun i => cnt1 (fun j => cl (r + i) (c + j) = x) pw) ph + cellsIn cl r c ph pw L := by
      unfold cellsIn
      rw [← sumR_add]
      exact sumR_congr ph fun i _ => cnt1_cons r c i x L hnd.1 pw
    have e2 := ih hnd.2 (fun y hy => hin y (List.mem_cons.2 (.inr hy)))
    have e3 := cells_room f hr hc k hk hb
    rw [← hx] at e3
    have e4 : boxAt boxes x = boxes[k] := by
      unfold boxAt
      rw [hx, Int.toNat_natCast, List.getD_eq_getElem?_getD, List.getElem?_eq_getElem hk]; rfl
    rw [e1, List.map_cons, List.sum_cons, e4]
    push_cast
    rw [e3, e2]
theorem cells_full {cl : Nat → Nat → Int} {r c ph pw : Nat} {L : List Int} (h : cellsIn cl r c ph pw L = ph * pw) : ∀ i j, InR r c ph pw i j → cl i j ∈ L := by
  intro i j hij
  have h1 := sumR_full (fun i => cnt1_le _) ph h (i - r) (by have := hij.1; omega)
  have h2 := cnt1_full _ h1 (j - c) (by have := hij.2; omega)
  rwa [show r + (i - r) = i by have := hij.1; omega, show c + (j - c) = j by have := hij.2; omega] at h2
theorem cells_every {cl : Nat → Nat → Int} {r c ph pw : Nat} {L : List Int} (h : ∀ i j, InR r c ph pw i j → cl i j ∈ L) : cellsIn cl r c ph pw L = ph * pw := by
  unfold cellsIn
  rw [sumR_congr (k := fun _ => pw) ph (fun i hi => cnt1_all pw (fun j hj => h _ _ ⟨⟨by omega, by omega⟩, by omega, by omega⟩)), sumR_const]
theorem tile_whole {cl : Nat → Nat → Int} {boxes : List Box} {h wd r c ph pw : Nat} (f : Flat cl boxes h wd) (hs : 1 ≤ ph ∧ 1 ≤ pw) (hr : r + ph ≤ h) (hc : c + pw ≤ wd) (L : List Int) (hnd : L.Nodup) (hin : ∀ x ∈ L, ∃ k, ∃ hk : k < boxes.length, x = (k : Int) ∧ bothB (natB r c ph pw) boxes[k] = natB r c ph pw)
    (ha : (L.map fun x => areaB (boxAt boxes x)).sum = areaB (natB r c ph pw)) : Whole cl h wd r c ph pw := by
  have e := cells_sum f hr hc L hnd hin
  rw [ha] at e
  have e2 : cellsIn cl r c ph pw L = ph * pw := by
    have : ((cellsIn cl r c ph pw L : Nat) : Int) = ((ph * pw : Nat) : Int) := by rw [e]; show (ph : Int) * (pw : Int) = _; rw [Int.natCast_mul]
    exact Int.ofNat_inj.1 this
  have hall := cells_full e2
  refine ⟨hs, hr, hc, fun i j i' j' hij hi' hj' hcc => ?_⟩
  obtain ⟨k, hk, hx, hb⟩ := hin _ (hall i j hij)
  obtain ⟨a, b, d, e, hbx, h1, h2, h3, h4, hcl⟩ := f.box k hk
  rw [hbx, both_within] at hb
  have := (hcl i' j' hi' hj').1 (by rw [← hcc, hx])
  exact ⟨⟨by omega, by omega⟩, by omega, by omega⟩
theorem whole_sum {cl : Nat → Nat → Int} {boxes : List Box} {h wd r c ph pw : Nat} (f : Flat cl boxes h wd) (hw : Whole cl h wd r c ph pw) : ((listL boxes (natB r c ph pw) boxes.length).map fun x => areaB (boxAt boxes x)).sum = areaB (natB r c ph pw) := by
  have hsrt := (listL_sorted boxes (natB r c ph pw) boxes.length).1
  have hnd : (listL boxes (natB r c ph pw) boxes.length).Nodup := hsrt.imp (fun h => Int.ne_of_lt h)
  have e := cells_sum f hw.row hw.col (listL boxes (natB r c ph pw) boxes.length) hnd (fun x hx => by
    obtain ⟨m, e, hm, hb⟩ := listL_mem hx
    refine ⟨m, hm, e, ?_⟩
    rwa [List.getD_eq_getElem?_getD, List.getElem?_eq_getElem hm] at hb)
  rw [← e, cells_every (fun i j hij => (listL_iff f hw _).2 ⟨i, j, hij, rfl⟩)]
  show ((ph * pw : Nat) : Int) = (ph : Int) * (pw : Int)
  rw [Int.natCast_mul]
end Go.Proofs.Ytdhnjecbdclmaaa
