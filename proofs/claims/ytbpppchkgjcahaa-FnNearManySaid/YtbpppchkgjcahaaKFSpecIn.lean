/- The reference's PlanIn answers planG. -/
import Derived.Test.YtbpppchkgjcahaaKFSpecGridM
namespace Go.Proofs.Ytbpppchkgjcahaa
open Go.RowKit Go.Shelf Go.Proofs.YtbpppchkgjcahaaW.PrintWords Go.Proofs.YtbpppchkgjcahaaW.PrintMore L2
set_option linter.unusedVariables false
theorem up {α : Type} {g : Nat → Option α} (hm : ∀ k, LeO (g k) (g (k + 1))) {k : Nat} {r : α} (h : g k = some r) : ∀ n, g (k + n) = some r := by
  intro n
  induction n with
  | zero => exact h
  | succ n ih => exact hm _ _ ih
def fillsB (wd : Nat) (f : Nat → Int) (N : Nat) (r : Nat) : Bool := ((List.range ((scan wd f N).1.length)).drop r).all fun q => decide ((cntX f (97 + (q : Int)) N : Int) = areaB ((scan wd f N).2.getD q (0, 0, 0, 0)))
theorem plan_from {p : List ByteArray} {wd : Nat} {f : Nat → Int} (h : TextGrid p wd f) (h1 : 1 ≤ p.length) (hn : Named wd f (p.length * wd)) :
    ∀ d r, (scan wd f (p.length * wd)).1.length - r = d → r ≤ (scan wd f (p.length * wd)).1.length → ∃ k, spec_PlanIn.l0 k p (r : Int) = some (fillsB wd f (p.length * wd) r) := by
  obtain ⟨kr, hkr⟩ := rooms_f h
  rw [rmx_named hn _ (Nat.le_refl _)] at hkr
  have hN : p.length * wd ≤ 36 := Nat.mul_le_mul h.high h.wide
  have hm : (scan wd f (p.length * wd)).1.length ≤ 36 := Nat.le_trans (scan_len_le _ _ _) hN
  have hR := up (g := fun k => spec_l1Rooms.f k p) (fun k => spec_l1Rooms.mono p k) hkr
  intro d
  induction d with
  | zero =>
    intro r hd hr
    refine ⟨kr + 1, ?_⟩
    unfold spec_PlanIn.l0 fillsB
    rw [hkr]
    simp only [Option.bind_some]
    rw [if_neg (by omega), List.drop_of_length_le (by rw [List.length_range]; omega)]
    rfl
  | succ d ih =>
    intro r hd hr
    obtain ⟨kn, hkn⟩ := ih (r + 1) (by omega) (by omega)
    have hrl : r < (scan wd f (p.length * wd)).1.length := by omega
    have hrl2 : r < (scan wd f (p.length * wd)).2.length := by rw [← scan_len]; exact hrl
    have hord := named_ord hn r hrl
    have hbx := scan_box (w := wd) (f := f) (p.length * wd) r hrl hrl2
    rw [hord] at hbx
    have hex : ∃ m, m < p.length * wd ∧ f m = 97 + (r : Int) := by
      obtain ⟨m, a, b, _⟩ := hbx.top
      exact ⟨m, a, b⟩
    obtain ⟨ko, b, hko, hb⟩ := room_f h h1 (r : Int) ⟨by omega, by omega⟩ hex
    have hbe := hb.unique hbx
    subst hbe
    obtain ⟨kc, hkc⟩ := cells_f h (r : Int) ⟨by omega, by omega⟩
    have hO := up (g := fun k => spec_l1Room.f k p (r : Int)) (fun k => spec_l1Room.mono p (r : Int) k) hko
    have hC := up (g := fun k => spec_l1Cells.f k p (r : Int)) (fun k => spec_l1Cells.mono p (r : Int) k) hkc
    have hNx := up (g := fun k => spec_PlanIn.l0 k p ((r + 1 : Nat) : Int)) (fun k => (spec_PlanIn.mono_l k).2 p _) hkn
    refine ⟨(kr + ko + kc + kn) + 1, ?_⟩
    have a1 : spec_l1Rooms.f (kr + ko + kc + kn) p = some ((scan wd f (p.length * wd)).1.length : Int) := by have := hR (ko + kc + kn); rwa [show kr + (ko + kc + kn) = kr + ko + kc + kn by omega] at this
    have a2 : spec_l1Room.f (kr + ko + kc + kn) p (r : Int) = some (scan wd f (p.length * wd)).2[r] := by have := hO (kr + kc + kn); rwa [show ko + (kr + kc + kn) = kr + ko + kc + kn by omega] at this
    have a3 : spec_l1Cells.f (kr + ko + kc + kn) p (r : Int) = some ((cntX f (97 + (r : Int)) (p.length * wd) : Nat) : Int) := by have := hC (kr + ko + kn); rwa [show kc + (kr + ko + kn) = kr + ko + kc + kn by omega] at this
    have a4 : spec_PlanIn.l0 (kr + ko + kc + kn) p ((r + 1 : Nat) : Int) = some (fillsB wd f (p.length * wd) (r + 1)) := by have := hNx (kr + ko + kc); rwa [show kn + (kr + ko + kc) = kr + ko + kc + kn by omega] at this
    have hbin := scan_boxIn wd f (p.length * wd) (by omega) _ (List.getElem_mem hrl2)
    have hab := area_bound hbin
    have hw : wrap64 ((scan wd f (p.length * wd)).2[r].2.2.1 * (scan wd f (p.length * wd)).2[r].2.2.2) = areaB (scan wd f (p.length * wd)).2[r] := by
      unfold areaB at hab ⊢
      unfold wrap64
      omega
    have hfill : fillsB wd f (p.length * wd) r = (decide ((cntX f (97 + (r : Int)) (p.length * wd) : Int) = areaB (scan wd f (p.length * wd)).2[r]) && fillsB wd f (p.length * wd) (r + 1)) := by
      unfold fillsB
      rw [← List.getElem_cons_drop (show r < (List.range ((scan wd f (p.length * wd)).1.length)).length by rw [List.length_range]; exact hrl), List.all_cons, List.getElem_range, List.getD_eq_getElem?_getD, List.getElem?_eq_getElem hrl2]
      rfl
    unfold spec_PlanIn.l0
    rw [a1]
    simp only [Option.bind_some]
    rw [if_pos (by omega), a2]
    simp only [Option.bind_some]
    rw [a3]
    simp only [Option.bind_some]
    rw [hw, hfill]
    by_cases he : ((cntX f (97 + (r : Int)) (p.length * wd) : Nat) : Int) = areaB (scan wd f (p.length * wd)).2[r]
    · rw [if_pos he, wrap_succ (by omega), a4, decide_eq_true he, Bool.true_and]
    · rw [if_neg he, decide_eq_false he, Bool.false_and]
theorem textGrid_of {p : List ByteArray} (hl : lettersB p = true) (hs : shapeB (rowsOf p) = true) : TextGrid p ((rowsOf p).getD 0 []).length (cellOf (rowsOf p) ((rowsOf p).getD 0 []).length) ∧ 1 ≤ p.length ∧ 1 ≤ ((rowsOf p).getD 0 []).length := by
  have hlen : (rowsOf p).length = p.length := by unfold rowsOf; rw [List.length_map]
  have hg : ∀ r (hr : r < p.length), (rowsOf p)[r]? = some (bytesOf p[r]) := fun r hr => by unfold rowsOf; rw [List.getElem?_map, List.getElem?_eq_getElem hr]; rfl
  unfold shapeB at hs
  simp only [Bool.and_eq_true, decide_eq_true_eq, Bool.not_eq_true', List.any_eq_false, List.mem_range, hlen, ne_eq, Decidable.not_not] at hs
  obtain ⟨⟨⟨⟨h1, h2⟩, h3⟩, h4⟩, h5⟩ := hs
  have hsz : ∀ i (hi : i < p.length), p[i].size = ((rowsOf p).getD 0 []).length := fun i hi => by
    have := h5 i hi
    rw [List.getD_eq_getElem?_getD, hg i hi, Option.getD_some, bytesOf_length] at this
    omega
  have hf : ∀ i c (hi : i < p.length), c < ((rowsOf p).getD 0 []).length → bt p[i] (c : Int) = cellOf (rowsOf p) ((rowsOf p).getD 0 []).length (i * ((rowsOf p).getD 0 []).length + c) := fun i c hi hc => by
    have hcb : c < (bytesOf p[i]).length := by rw [bytesOf_length, hsz i hi]; exact hc
    rw [cellOf_at hc (hg i hi), bt_get hcb, List.getD_eq_getElem?_getD, List.getElem?_eq_getElem hcb]; rfl
  refine ⟨⟨h2, h4, hsz, hf, fun n hn => ?_⟩, h1, h3⟩
  have hi : n / ((rowsOf p).getD 0 []).length < p.length := Nat.div_lt_of_lt_mul (by rw [Nat.mul_comm]; exact hn)
  have hc : n % ((rowsOf p).getD 0 []).length < ((rowsOf p).getD 0 []).length := Nat.mod_lt _ (by omega)
  have hnn : n / ((rowsOf p).getD 0 []).length * ((rowsOf p).getD 0 []).length + n % ((rowsOf p).getD 0 []).length = n := by rw [Nat.mul_comm]; exact Nat.div_add_mod _ _
  have hb := hf _ _ hi hc
  rw [hnn] at hb
  rw [← hb]
  have hcb : n % ((rowsOf p).getD 0 []).length < (bytesOf p[n / ((rowsOf p).getD 0 []).length]).length := by rw [bytesOf_length, hsz _ hi]; exact hc
  rw [bt_get hcb]
  unfold lettersB at hl
  have h8 := List.all_eq_true.1 hl _ (List.getElem_mem hi)
  unfold letB at h8
  have h9 := List.all_eq_true.1 h8 _ (List.getElem_mem hcb)
  rw [Bool.and_eq_true, decide_eq_true_eq, decide_eq_true_eq] at h9
  exact h9
theorem rowText_bt (row : List Int) (h : ∀ k ∈ row, (0 : Int) ≤ k ∧ k ≤ 100) (c : Nat) (hc : c < row.length) : bt (rowText row) (c : Int) = 97 + row[c] := by
  have hb : c < (bytesOf (rowText row)).length := by
    unfold bytesOf rowText rowBytes
    rw [List.length_map, List.toList_toArray, List.length_map]; exact hc
  rw [bt_get hb]
  have e : (bytesOf (rowText row))[c] = (((letOf row[c]).toNat : Nat) : Int) := by
    unfold bytesOf rowText rowBytes
    simp
  rw [e, letOf_val (h _ (List.getElem_mem hc))]
theorem named_of {p : List ByteArray} (hl : lettersB p = true) (hs : shapeB (rowsOf p) = true) (hn : (numsOf (rowsOf p)).map rowText = p) : Named ((rowsOf p).getD 0 []).length (cellOf (rowsOf p) ((rowsOf p).getD 0 []).length) (p.length * ((rowsOf p).getD 0 []).length) := by
  obtain ⟨hT, h1, h3⟩ := textGrid_of hl hs
  have hlen : (rowsOf p).length = p.length := by unfold rowsOf; rw [List.length_map]
  obtain ⟨hn1, hn2⟩ := nums_small hs
  intro n hnl
  have hi : n / ((rowsOf p).getD 0 []).length < p.length := Nat.div_lt_of_lt_mul (by rw [Nat.mul_comm]; exact hnl)
  have hc : n % ((rowsOf p).getD 0 []).length < ((rowsOf p).getD 0 []).length := Nat.mod_lt _ (by omega)
  have hnn : n / ((rowsOf p).getD 0 []).length * ((rowsOf p).getD 0 []).length + n % ((rowsOf p).getD 0 []).length = n := by rw [Nat.mul_comm]; exact Nat.div_add_mod _ _
  have hb := hT.cell _ _ hi hc
  rw [hnn] at hb
  have hrowi : (numsOf (rowsOf p))[n / ((rowsOf p).getD 0 []).length]? = some ((List.range ((rowsOf p).getD 0 []).length).map fun c => ((numAt ((rowsOf p).getD 0 []).length (cellOf (rowsOf p) ((rowsOf p).getD 0 []).length) (n / ((rowsOf p).getD 0 []).length * ((rowsOf p).getD 0 []).length + c) : Nat) : Int)) := by
    unfold numsOf
    rw [List.getElem?_map, List.getElem?_range (by rw [hlen]; exact hi)]
    rfl
  have hpi : p[n / ((rowsOf p).getD 0 []).length]? = some (rowText ((List.range ((rowsOf p).getD 0 []).length).map fun c => ((numAt ((rowsOf p).getD 0 []).length (cellOf (rowsOf p) ((rowsOf p).getD 0 []).length) (n / ((rowsOf p).getD 0 []).length * ((rowsOf p).getD 0 []).length + c) : Nat) : Int))) := by
    have := congrArg (fun l => l[n / ((rowsOf p).getD 0 []).length]?) hn
    rw [List.getElem?_map, hrowi] at this
    exact this.symm
  rw [List.getElem?_eq_getElem hi] at hpi
  injection hpi with hpi
  rw [hpi, rowText_bt _ (fun k hk => (hn2 _ (List.mem_of_getElem? hrowi)).2 k hk) _ (by rw [List.length_map, List.length_range]; exact hc)] at hb
  rw [← hb]
  simp only [List.getElem_map, List.getElem_range]
  rw [hnn]
theorem fills_area {wd rows : Nat} {f : Nat → Int} (hN : Named wd f (rows * wd)) : fillsB wd f (rows * wd) 0 = decide (((scan wd f (rows * wd)).2.map areaB).sum = ((rows * wd : Nat) : Int)) := by
  have ha := area_all wd rows f
  rw [Bool.eq_iff_iff]
  unfold fillsB
  rw [List.drop_zero, List.all_eq_true, decide_eq_true_eq, ha]
  constructor
  · intro h k h1 h2
    have := h k (List.mem_range.2 h1)
    rw [decide_eq_true_eq, List.getD_eq_getElem?_getD, List.getElem?_eq_getElem h2] at this
    rw [named_ord hN k h1]
    exact this
  · intro h k hk
    have hk := List.mem_range.1 hk
    have h2 : k < (scan wd f (rows * wd)).2.length := by rw [← scan_len]; exact hk
    have := h k hk h2
    rw [named_ord hN k hk] at this
    rw [decide_eq_true_eq, List.getD_eq_getElem?_getD, List.getElem?_eq_getElem h2]
    exact this
theorem fills_full {p : List ByteArray} (hl : lettersB p = true) (hs : shapeB (rowsOf p) = true) (hn : (numsOf (rowsOf p)).map rowText = p) : fillsB ((rowsOf p).getD 0 []).length (cellOf (rowsOf p) ((rowsOf p).getD 0 []).length) (p.length * ((rowsOf p).getD 0 []).length) 0 = fullB (rowsOf p) := by
  have hlen : (rowsOf p).length = p.length := by unfold rowsOf; rw [List.length_map]
  rw [fills_area (named_of hl hs hn)]
  unfold fullB scanOf
  rw [hlen]
  have hc : ((p.length : Nat) : Int) * ((((rowsOf p).getD 0 []).length : Nat) : Int) = ((p.length * ((rowsOf p).getD 0 []).length : Nat) : Int) := by push_cast; rfl
  rw [hc]
theorem planIn_f (p : List ByteArray) (hip : p.length ≤ 2000000) (hsz : ∀ s ∈ p, s.size ≤ 2000000) : ∃ k, spec_PlanIn.f k p = some (planG p) := by
  obtain ⟨kg, hkg⟩ := grid_f p hip hsz
  rw [grid_is] at hkg
  have hG := up (g := fun k => spec_l1Grid.f k p) (fun k => spec_l1Grid.mono p k) hkg
  cases hg : (lettersB p && shapeB (rowsOf p)) with
  | false =>
    have hpl : planG p = false := by
      unfold planG
      rw [Bool.and_eq_false_iff] at hg
      rcases hg with hg | hg <;> rw [hg] <;> simp
    refine ⟨kg + 1, ?_⟩
    have a1 := hG 1
    rw [hg] at a1
    unfold spec_PlanIn.f
    rw [a1]
    simp only [Option.bind_some, Bool.false_eq_true, if_false]
    rw [hpl]
    rfl
  | true =>
    obtain ⟨kn, hkn⟩ := names_f p hg
    have hg2 := hg
    rw [Bool.and_eq_true] at hg2
    obtain ⟨hl, hs⟩ := hg2
    obtain ⟨hT, h1, h3⟩ := textGrid_of hl hs
    obtain ⟨hn1, hn2⟩ := nums_small hs
    obtain ⟨ks, hks⟩ := same_f ((numsOf (rowsOf p)).map rowText) p (by rw [List.length_map]; omega) hip
    have hNm := up (g := fun k => spec_l1Names.f k p) (fun k => spec_l1Names.mono p k) hkn
    have hSm := up (g := fun k => spec_l1Same.f k ((numsOf (rowsOf p)).map rowText) p) (fun k => spec_l1Same.mono _ _ k) hks
    by_cases hn : (numsOf (rowsOf p)).map rowText = p
    · obtain ⟨kr, hkr⟩ := rooms_f hT
      have hN := named_of hl hs hn
      rw [rmx_named hN _ (Nat.le_refl _)] at hkr
      have hRm := up (g := fun k => spec_l1Rooms.f k p) (fun k => spec_l1Rooms.mono p k) hkr
      obtain ⟨kp, hkp⟩ := plan_from hT h1 hN _ 0 rfl (Nat.zero_le _)
      rw [fills_full hl hs hn] at hkp
      have hPm := up (g := fun k => spec_PlanIn.l0 k p ((0 : Nat) : Int)) (fun k => (spec_PlanIn.mono_l k).2 p _) hkp
      have hlen : (rowsOf p).length = p.length := by unfold rowsOf; rw [List.length_map]
      have hsc : (scanOf (rowsOf p)).2.length = (scan ((rowsOf p).getD 0 []).length (cellOf (rowsOf p) ((rowsOf p).getD 0 []).length) (p.length * ((rowsOf p).getD 0 []).length)).1.length := by unfold scanOf; rw [hlen, scan_len]
      refine ⟨(kg + kn + ks + kr + kp) + 1, ?_⟩
      have a1 := hG (kn + ks + kr + kp + 1)
      rw [hg, show kg + (kn + ks + kr + kp + 1) = (kg + kn + ks + kr + kp) + 1 by omega] at a1
      have a2 := hNm (kg + ks + kr + kp + 1)
      rw [show kn + (kg + ks + kr + kp + 1) = (kg + kn + ks + kr + kp) + 1 by omega] at a2
      have a3 := hSm (kg + kn + kr + kp + 1)
      rw [show ks + (kg + kn + kr + kp + 1) = (kg + kn + ks + kr + kp) + 1 by omega, decide_eq_true hn] at a3
      have a4 := hRm (kg + kn + ks + kp + 1)
      rw [show kr + (kg + kn + ks + kp + 1) = (kg + kn + ks + kr + kp) + 1 by omega] at a4
      have a5 := hPm (kg + kn + ks + kr)
      rw [show kp + (kg + kn + ks + kr) = kg + kn + ks + kr + kp by omega] at a5
      unfold spec_PlanIn.f
      rw [a1]
      simp only [Option.bind_some, if_true]
      rw [a2]
      simp only [Option.bind_some]
      rw [a3]
      simp only [Option.bind_some, if_true]
      rw [a4]
      simp only [Option.bind_some]
      have hpl : planG p = (decide ((scanOf (rowsOf p)).2.length ≤ 9) && fullB (rowsOf p)) := by
        unfold planG
        rw [hl, hs, decide_eq_true hn, Bool.true_and, Bool.true_and, Bool.and_true]
      unfold spec_PlanIn.j0
      rw [hpl, hsc]
      by_cases h9 : (scan ((rowsOf p).getD 0 []).length (cellOf (rowsOf p) ((rowsOf p).getD 0 []).length) (p.length * ((rowsOf p).getD 0 []).length)).1.length ≤ 9
      · rw [decide_eq_false (by omega), decide_eq_true h9, Bool.true_and]
        exact a5
      · rw [decide_eq_true (by omega), decide_eq_false h9, Bool.false_and]
        rfl
    · have hpl : planG p = false := by unfold planG; rw [decide_eq_false hn]; simp
      refine ⟨(kg + kn + ks) + 1, ?_⟩
      have a1 := hG (kn + ks + 1)
      rw [hg, show kg + (kn + ks + 1) = (kg + kn + ks) + 1 by omega] at a1
      have a2 := hNm (kg + ks + 1)
      rw [show kn + (kg + ks + 1) = (kg + kn + ks) + 1 by omega] at a2
      have a3 := hSm (kg + kn + 1)
      rw [show ks + (kg + kn + 1) = (kg + kn + ks) + 1 by omega, decide_eq_false hn] at a3
      unfold spec_PlanIn.f
      rw [a1]
      simp only [Option.bind_some, if_true]
      rw [a2]
      simp only [Option.bind_some]
      rw [a3]
      simp only [Option.bind_some, Bool.false_eq_true, if_false]
      rw [hpl]
      rfl
end Go.Proofs.Ytbpppchkgjcahaa
