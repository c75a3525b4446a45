/- The reference's test of a plan, part by part, in plain Lean: the grid, and texts that are the same. -/
import Derived.Test.YtiehiockjlhbcaaKFloorOf
import Derived.Test.YtiehiockjlhbcaaKL2x
namespace Go.Proofs.Ytiehiockjlhbcaa
open Go.RowKit Go.Shelf Go.Proofs.YtiehiockjlhbcaaW.PrintWords Go.Proofs.YtiehiockjlhbcaaW.PrintMore L2
set_option linter.unusedVariables false

theorem rdOf_at {p : List ByteArray} {i : Nat} (hi : i < p.length) : rdOf ByteArray.empty p (i : Int) = p[i] := by
  unfold rdOf
  rw [Int.toNat_natCast, List.getD_eq_getElem?_getD, List.getElem?_eq_getElem hi]; rfl
theorem wrap_succ {j : Nat} (h : j ≤ 9000000) : wrap64 ((j : Int) + 1) = ((j + 1 : Nat) : Int) := by unfold wrap64; omega
theorem bt_get {s : ByteArray} {j : Nat} (h : j < (bytesOf s).length) : bt s (j : Int) = (bytesOf s)[j] := by
  rw [← rd_bytesOf]
  unfold rd
  rw [Int.toNat_natCast, List.getD_eq_getElem?_getD, List.getElem?_eq_getElem h]; rfl
def okL (x : Int) : Bool := decide (97 ≤ x) && decide (x ≤ 122)
theorem drop_all {l : List Int} {j : Nat} (h : j < l.length) (f : Int → Bool) : (l.drop j).all f = (f l[j] && (l.drop (j + 1)).all f) := by
  rw [← List.getElem_cons_drop h, List.all_cons]
theorem grid_row (p : List ByteArray) (i : Nat) (hi : i < p.length) (hip : p.length ≤ 2000000) (hsz : p[i].size ≤ 2000000) (R : Bool) (hR : ∃ k, spec_l1Grid.l0 k p ((i + 1 : Nat) : Int) = some R) :
    ∀ d j, p[i].size - j = d → j ≤ p[i].size → ∃ k, spec_l1Grid.l1 k p (i : Int) (j : Int) = some (((bytesOf p[i]).drop j).all okL && R) := by
  intro d
  induction d with
  | zero =>
    intro j hd hj
    obtain ⟨k, hk⟩ := hR
    refine ⟨k + 1, ?_⟩
    unfold spec_l1Grid.l1
    rw [if_pos (by omega), if_pos (by omega), rdOf_at hi, if_neg (by omega), wrap_succ (by omega), hk, List.drop_of_length_le (by rw [bytesOf_length]; omega)]
    rfl
  | succ d ih =>
    intro j hd hj
    have hjl : j < (bytesOf p[i]).length := by rw [bytesOf_length]; omega
    obtain ⟨k, hk⟩ := ih (j + 1) (by omega) (by omega)
    refine ⟨k + 1, ?_⟩
    unfold spec_l1Grid.l1
    rw [if_pos (by omega), if_pos (by omega), rdOf_at hi, if_pos (by omega), if_pos (by omega), bt_get hjl, drop_all hjl]
    by_cases h1 : (bytesOf p[i])[j] < 97
    · rw [if_pos h1]
      have : okL (bytesOf p[i])[j] = false := by unfold okL; rw [decide_eq_false (by omega)]; rfl
      rw [this]; rfl
    · rw [if_neg h1]
      by_cases h2 : (bytesOf p[i])[j] > 122
      · rw [if_pos h2]
        have : okL (bytesOf p[i])[j] = false := by unfold okL; rw [decide_eq_false (show ¬ (bytesOf p[i])[j] ≤ 122 by omega), Bool.and_false]
        rw [this]; rfl
      · rw [if_neg h2, wrap_succ (by omega), hk]
        have : okL (bytesOf p[i])[j] = true := by unfold okL; rw [decide_eq_true (by omega), decide_eq_true (by omega)]; rfl
        rw [this, Bool.true_and]
def rowB (p : List ByteArray) (s : ByteArray) : Bool := decide ((s.size : Int) = ((rdOf ByteArray.empty p 0).size : Int)) && (decide (1 ≤ s.size ∧ s.size ≤ 6) && letB s)
def restB (p : List ByteArray) (i : Nat) : Bool := (p.drop i).all (rowB p) && decide (1 ≤ p.length ∧ p.length ≤ 6)
theorem grid_from (p : List ByteArray) (hip : p.length ≤ 2000000) (hsz : ∀ s ∈ p, s.size ≤ 2000000) : ∀ d i, p.length - i = d → i ≤ p.length → ∃ k, spec_l1Grid.l0 k p (i : Int) = some (restB p i) := by
  intro d
  induction d with
  | zero =>
    intro i hd hi
    refine ⟨1, ?_⟩
    unfold spec_l1Grid.l0 spec_l6In.f restB
    rw [if_neg (by omega), List.drop_of_length_le (by omega)]
    by_cases h1 : 1 ≤ p.length
    · rw [if_pos (by omega)]
      simp only [Option.bind_some, List.all_nil, Bool.true_and]
      congr 1
      rw [Bool.eq_iff_iff, decide_eq_true_eq, decide_eq_true_eq]
      omega
    · rw [if_neg (by omega)]
      simp only [Option.bind_some, List.all_nil, Bool.true_and]
      rw [decide_eq_false (by omega)]
  | succ d ih =>
    intro i hd hi
    have hil : i < p.length := by omega
    have hR := ih (i + 1) (by omega) (by omega)
    have hdr : (p.drop i).all (rowB p) = (rowB p p[i] && (p.drop (i + 1)).all (rowB p)) := by
      rw [← List.getElem_cons_drop hil, List.all_cons]
    have hrest : restB p i = (rowB p p[i] && restB p (i + 1)) := by unfold restB; rw [hdr, Bool.and_assoc]
    obtain ⟨k, hk⟩ := grid_row p i hil hip (hsz _ (List.getElem_mem hil)) _ hR _ 0 rfl (Nat.zero_le _)
    have hl : letB p[i] = ((bytesOf p[i]).drop 0).all okL := by rw [List.drop_zero]; rfl
    refine ⟨k + 2, ?_⟩
    unfold spec_l1Grid.l0
    rw [if_pos (by omega), if_pos (by omega), if_pos (by omega), rdOf_at hil, hrest]
    by_cases h1 : ((p[i].size : Int) = ((rdOf ByteArray.empty p 0).size : Int))
    · rw [if_pos h1]
      have hrow : rowB p p[i] = (decide (1 ≤ p[i].size ∧ p[i].size ≤ 6) && letB p[i]) := by unfold rowB; rw [decide_eq_true h1, Bool.true_and]
      unfold spec_l6In.f
      by_cases h2 : 1 ≤ p[i].size ∧ p[i].size ≤ 6
      · rw [if_pos (by omega), decide_eq_true (by omega)]
        simp only [Option.bind_some]
        unfold spec_l1Grid.j1
        rw [hrow, decide_eq_true h2, Bool.true_and, hl]
        simp only [Bool.not_true, Bool.false_eq_true, if_false]
        exact hk
      · have hneg : (spec_l6In.f (p[i].size : Int) 1 6) = some false := by
          unfold spec_l6In.f
          by_cases h3 : 1 ≤ p[i].size
          · rw [if_pos (by omega), decide_eq_false (by omega)]
          · rw [if_neg (by omega)]
        unfold spec_l6In.f at hneg
        rw [hneg]
        simp only [Option.bind_some]
        unfold spec_l1Grid.j1
        rw [hrow, decide_eq_false h2]
        rfl
    · rw [if_neg h1]
      have hrow : rowB p p[i] = false := by unfold rowB; rw [decide_eq_false h1, Bool.false_and]
      unfold spec_l1Grid.j1
      rw [hrow]
      rfl
theorem grid_f (p : List ByteArray) (hip : p.length ≤ 2000000) (hsz : ∀ s ∈ p, s.size ≤ 2000000) : ∃ k, spec_l1Grid.f k p = some (restB p 0) := grid_from p hip hsz _ 0 rfl (Nat.zero_le _)
/-- The reference's grid is the program's letters and shape. -/
theorem grid_is (p : List ByteArray) : restB p 0 = (lettersB p && shapeB (rowsOf p)) := by
  have hlen : (rowsOf p).length = p.length := by unfold rowsOf; rw [List.length_map]
  have hg : ∀ r, ((rowsOf p).getD r []).length = (p.getD r ByteArray.empty).size := fun r => by
    unfold rowsOf
    rw [List.getD_eq_getElem?_getD, List.getD_eq_getElem?_getD, List.getElem?_map]
    cases p[r]? with
    | none => rfl
    | some s => exact bytesOf_length s
  have h0 : (rdOf ByteArray.empty p 0).size = (p.getD 0 ByteArray.empty).size := rfl
  rw [Bool.eq_iff_iff]
  unfold restB lettersB shapeB rowB
  rw [hlen, hg 0]
  simp only [Bool.and_eq_true, List.all_eq_true, decide_eq_true_eq, List.drop_zero, Bool.not_eq_true', List.any_eq_false, List.mem_range, h0, hg]
  constructor
  · rintro ⟨ha, hb1, hb2⟩
    have hp0 : p.getD 0 ByteArray.empty ∈ p := by
      rw [List.getD_eq_getElem?_getD, List.getElem?_eq_getElem (by omega)]
      exact List.getElem_mem _
    have hq := ha _ hp0
    refine ⟨fun s hs => (ha s hs).2.2, ⟨⟨⟨hb1, hb2⟩, hq.2.1.1⟩, hq.2.1.2⟩, fun r hr => ?_⟩
    have := ha p[r] (List.getElem_mem hr)
    rw [List.getD_eq_getElem?_getD, List.getElem?_eq_getElem hr]
    simp only [Option.getD_some, ne_eq, Decidable.not_not]
    exact this.1
  · rintro ⟨hl, ⟨⟨⟨hb1, hb2⟩, hq1⟩, hq2⟩, hall⟩
    refine ⟨fun s hs => ?_, hb1, hb2⟩
    obtain ⟨r, hr, rfl⟩ := List.getElem_of_mem hs
    have := hall r hr
    rw [List.getD_eq_getElem?_getD, List.getElem?_eq_getElem hr] at this
    simp only [Option.getD_some, ne_eq, Decidable.not_not] at this
    exact ⟨this, by omega, hl _ hs⟩
end Go.Proofs.Ytiehiockjlhbcaa
