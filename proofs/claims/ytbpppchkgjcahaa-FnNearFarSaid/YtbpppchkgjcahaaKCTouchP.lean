/- Rooms that touch, in plain Lean: from walls to cells beside each other. -/
import Derived.Test.YtbpppchkgjcahaaKCKindPM
import Derived.Test.YtbpppchkgjcahaaKCBfsP
namespace Go.Proofs.Ytbpppchkgjcahaa
open Go.RowKit Go.Shelf Go.Proofs.YtbpppchkgjcahaaW.PrintWords Go.Proofs.YtbpppchkgjcahaaW.PrintMore
set_option linter.unusedVariables false
set_option linter.unusedSimpArgs false
def BesideC (cl : Nat → Nat → Int) (h wd : Nat) (a b : Int) : Prop :=
  (∃ i j, i < h ∧ j + 1 < wd ∧ (cl i j = a ∧ cl i (j + 1) = b ∨ cl i j = b ∧ cl i (j + 1) = a)) ∨ (∃ i j, i + 1 < h ∧ j < wd ∧ (cl i j = a ∧ cl (i + 1) j = b ∨ cl i j = b ∧ cl (i + 1) j = a))
noncomputable def nbB (cl : Nat → Nat → Int) (h wd : Nat) (a b : Nat) : Bool := @decide (a ≠ b ∧ BesideC cl h wd (a : Int) (b : Int)) (Classical.propDecidable _)
theorem nbB_iff {cl : Nat → Nat → Int} {h wd a b : Nat} : nbB cl h wd a b = true ↔ a ≠ b ∧ BesideC cl h wd (a : Int) (b : Int) := by
  unfold nbB; exact @decide_eq_true_iff _ (Classical.propDecidable _)
theorem BesideC.symm {cl : Nat → Nat → Int} {h wd : Nat} {a b : Int} (hh : BesideC cl h wd a b) : BesideC cl h wd b a := by
  rcases hh with ⟨i, j, h1, h2, h3⟩ | ⟨i, j, h1, h2, h3⟩
  · exact .inl ⟨i, j, h1, h2, h3.symm⟩
  · exact .inr ⟨i, j, h1, h2, h3.symm⟩
def unitsW (cl : Nat → Nat → Int) (x : WallT) : List (Nat × Nat) := (List.range x.2.2.2).map fun i => ((sidesL cl x.1 x.2.1 (x.2.2.1 + i)).1.toNat, (sidesL cl x.1 x.2.1 (x.2.2.1 + i)).2.toNat)
theorem unitsW_len (cl : Nat → Nat → Int) (x : WallT) : (unitsW cl x).length = x.2.2.2 := by unfold unitsW; rw [List.length_map, List.length_range]
theorem unitsW_get (cl : Nat → Nat → Int) (x : WallT) {m : Nat} (hm : m < x.2.2.2) : (unitsW cl x).take (m + 1) = (unitsW cl x).take m ++ [((sidesL cl x.1 x.2.1 (x.2.2.1 + m)).1.toNat, (sidesL cl x.1 x.2.1 (x.2.2.1 + m)).2.toNat)] := by
  rw [List.take_succ_eq_append_getElem (by rw [unitsW_len]; exact hm)]
  congr 2
  unfold unitsW
  rw [List.getElem_map, List.getElem_range]
def unitsTo (cl : Nat → Nat → Int) (L : List WallT) (k : Nat) : List (Nat × Nat) := (L.take k).flatMap (unitsW cl)
theorem unitsTo_succ (cl : Nat → Nat → Int) (L : List WallT) {k : Nat} (hk : k < L.length) : unitsTo cl L (k + 1) = unitsTo cl L k ++ unitsW cl L[k] := by
  unfold unitsTo
  rw [List.take_succ_eq_append_getElem hk, List.flatMap_append]
  simp
theorem unitsTo_all (cl : Nat → Nat → Int) (L : List WallT) : unitsTo cl L L.length = L.flatMap (unitsW cl) := by unfold unitsTo; rw [List.take_length]
def TouchI (T : Nat → Nat → Int) (U : List (Nat × Nat)) : Prop := ∀ a b, 0 ≤ T a b ∧ T a b ≤ 2 * (U.length : Int) ∧ (0 < T a b ↔ (a, b) ∈ U ∨ (b, a) ∈ U)
theorem TouchI.nil : TouchI (fun _ _ => 0) [] := fun a b => ⟨Int.le_refl _, Int.le_refl _, by simp⟩
theorem TouchI.more {T : Nat → Nat → Int} {U : List (Nat × Nat)} (h : TouchI T U) (x y : Nat) :
    TouchI (fun i j => if i = y ∧ j = x then (if y = x ∧ x = y then T x y + 1 else T y x) + 1 else if i = x ∧ j = y then T x y + 1 else T i j) (U ++ [(x, y)]) := by
  intro a b
  have hxy := h x y
  have hyx := h y x
  have hab := h a b
  have hl : (((U ++ [(x, y)]).length : Nat) : Int) = (U.length : Int) + 1 := by rw [List.length_append]; rfl
  rw [hl]
  have hm : ((a, b) ∈ U ++ [(x, y)] ∨ (b, a) ∈ U ++ [(x, y)]) ↔ ((a, b) ∈ U ∨ (b, a) ∈ U) ∨ (a = x ∧ b = y) ∨ (b = x ∧ a = y) := by
    simp only [List.mem_append, List.mem_singleton, Prod.mk.injEq]
    constructor
    · rintro ((h | h) | (h | h))
      · exact .inl (.inl h)
      · exact .inr (.inl h)
      · exact .inl (.inr h)
      · exact .inr (.inr h)
    · rintro ((h | h) | (h | h))
      · exact .inl (.inl h)
      · exact .inr (.inl h)
      · exact .inl (.inr h)
      · exact .inr (.inr h)
  rw [hm]
  dsimp only
  by_cases c1 : a = y ∧ b = x
  · rw [if_pos c1]
    refine ⟨?_, ?_, ?_⟩
    · split <;> omega
    · split <;> omega
    · refine ⟨fun _ => .inr (.inr ⟨c1.2, c1.1⟩), fun _ => ?_⟩
      split <;> omega
  · rw [if_neg c1]
    by_cases c2 : a = x ∧ b = y
    · rw [if_pos c2]
      exact ⟨by omega, by omega, fun _ => .inr (.inl c2), fun _ => by omega⟩
    · rw [if_neg c2]
      refine ⟨by omega, by omega, fun hh => .inl (hab.2.2.1 hh), ?_⟩
      rintro (hh | hh | hh)
      · exact hab.2.2.2 hh
      · exact absurd hh c2
      · exact absurd ⟨hh.2, hh.1⟩ c1
theorem touch_near {cl : Nat → Nat → Int} {h wd n : Nat} (hnum : ∀ i j, i < h → j < wd → ∃ q, q < n ∧ cl i j = (q : Int)) {T : Nat → Nat → Int} (hT : TouchI T ((wallsL cl h wd).flatMap (unitsW cl))) (a b : Nat) : decide (0 < T a b) = nbB cl h wd a b := by
  have mem : ∀ a b : Nat, (a, b) ∈ (wallsL cl h wd).flatMap (unitsW cl) ↔ a ≠ b ∧ ((∃ i j, i < h ∧ j + 1 < wd ∧ cl i j = (a : Int) ∧ cl i (j + 1) = (b : Int)) ∨ (∃ i j, i + 1 < h ∧ j < wd ∧ cl i j = (a : Int) ∧ cl (i + 1) j = (b : Int))) := by
    intro a b
    rw [List.mem_flatMap]
    constructor
    · rintro ⟨⟨lv, line, fr, long⟩, hx, hm⟩
      obtain ⟨k1, k2, k3, k4⟩ := wallsL_in hx
      unfold unitsW at hm
      obtain ⟨m, hm1, hm2⟩ := List.mem_map.1 hm
      have hm1 := List.mem_range.1 hm1
      dsimp only at hm1 hm2 k1 k2 k3 k4
      have hd := k4 (fr + m) (by omega) (by omega)
      unfold dfL at hd
      rw [bne_iff_ne] at hd
      cases lv with
      | true =>
        simp only [if_true] at k1 k3
        unfold sidesL at hd hm2
        simp only [if_true] at hd hm2
        obtain ⟨q1, hq1, e1⟩ := hnum (line - 1) (fr + m) (by omega) (by omega)
        obtain ⟨q2, hq2, e2⟩ := hnum line (fr + m) (by omega) (by omega)
        rw [e1, e2] at hd hm2
        injection hm2 with e3 e4
        rw [Int.toNat_natCast] at e3 e4
        subst e3 e4
        refine ⟨fun e => hd (by rw [e]), .inr ⟨line - 1, fr + m, by omega, by omega, e1, ?_⟩⟩
        rw [show line - 1 + 1 = line by omega]; exact e2
      | false =>
        simp only [Bool.false_eq_true, if_false] at k1 k3
        unfold sidesL at hd hm2
        simp only [Bool.false_eq_true, if_false] at hd hm2
        obtain ⟨q1, hq1, e1⟩ := hnum (fr + m) (line - 1) (by omega) (by omega)
        obtain ⟨q2, hq2, e2⟩ := hnum (fr + m) line (by omega) (by omega)
        rw [e1, e2] at hd hm2
        injection hm2 with e3 e4
        rw [Int.toNat_natCast] at e3 e4
        subst e3 e4
        refine ⟨fun e => hd (by rw [e]), .inl ⟨fr + m, line - 1, by omega, by omega, e1, ?_⟩⟩
        rw [show line - 1 + 1 = line by omega]; exact e2
    · rintro ⟨hne, ⟨i, j, h1, h2, e1, e2⟩ | ⟨i, j, h1, h2, e1, e2⟩⟩
      · obtain ⟨x, hx, x1, x2, x3, x4⟩ := wall_has cl (h := h) (wd := wd) false (line := j + 1) (u := i) (v := i) (by omega) (by simp; omega) (Nat.le_refl _) (by simpa using h1) (fun k k1 k2 => by
          obtain rfl : k = i := by omega
          unfold dfL sidesL
          simp only [Bool.false_eq_true, if_false]
          rw [bne_iff_ne, show j + 1 - 1 = j by omega, e1, e2]
          exact fun e => hne (Int.ofNat.inj e))
        refine ⟨x, hx, ?_⟩
        unfold unitsW
        refine List.mem_map.2 ⟨i - x.2.2.1, List.mem_range.2 (by omega), ?_⟩
        rw [x1, x2, show x.2.2.1 + (i - x.2.2.1) = i by omega]
        unfold sidesL
        simp only [Bool.false_eq_true, if_false]
        rw [show j + 1 - 1 = j by omega, e1, e2]; rfl
      · obtain ⟨x, hx, x1, x2, x3, x4⟩ := wall_has cl (h := h) (wd := wd) true (line := i + 1) (u := j) (v := j) (by omega) (by simp; omega) (Nat.le_refl _) (by simpa using h2) (fun k k1 k2 => by
          obtain rfl : k = j := by omega
          unfold dfL sidesL
          simp only [if_true]
          rw [bne_iff_ne, show i + 1 - 1 = i by omega, e1, e2]
          exact fun e => hne (Int.ofNat.inj e))
        refine ⟨x, hx, ?_⟩
        unfold unitsW
        refine List.mem_map.2 ⟨j - x.2.2.1, List.mem_range.2 (by omega), ?_⟩
        rw [x1, x2, show x.2.2.1 + (j - x.2.2.1) = j by omega]
        unfold sidesL
        simp only [if_true]
        rw [show i + 1 - 1 = i by omega, e1, e2]; rfl
  rw [Bool.eq_iff_iff, decide_eq_true_iff, nbB_iff, (hT a b).2.2, mem, mem]
  unfold BesideC
  constructor
  · rintro (⟨hne, hh⟩ | ⟨hne, hh⟩)
    · refine ⟨hne, hh.imp ?_ ?_⟩
      · rintro ⟨i, j, h1, h2, h3, h4⟩; exact ⟨i, j, h1, h2, .inl ⟨h3, h4⟩⟩
      · rintro ⟨i, j, h1, h2, h3, h4⟩; exact ⟨i, j, h1, h2, .inl ⟨h3, h4⟩⟩
    · refine ⟨hne.symm, hh.imp ?_ ?_⟩
      · rintro ⟨i, j, h1, h2, h3, h4⟩; exact ⟨i, j, h1, h2, .inr ⟨h3, h4⟩⟩
      · rintro ⟨i, j, h1, h2, h3, h4⟩; exact ⟨i, j, h1, h2, .inr ⟨h3, h4⟩⟩
  · rintro ⟨hne, ⟨i, j, h1, h2, h3 | h3⟩ | ⟨i, j, h1, h2, h3 | h3⟩⟩
    · exact .inl ⟨hne, .inl ⟨i, j, h1, h2, h3⟩⟩
    · exact .inr ⟨hne.symm, .inl ⟨i, j, h1, h2, h3⟩⟩
    · exact .inl ⟨hne, .inr ⟨i, j, h1, h2, h3⟩⟩
    · exact .inr ⟨hne.symm, .inr ⟨i, j, h1, h2, h3⟩⟩
end Go.Proofs.Ytbpppchkgjcahaa
