/- Texts of this claim's, joined by a program: FSpecGrid, FSpecNames, FSpecRooms, FSpecPlan. -/
import Derived.Test.YtbpppchkgjcahaaKFShelfM
import Derived.Test.YtbpppchkgjcahaaKFL2x
section
namespace Go.Proofs.Ytbpppchkgjcahaa
open Go.RowKit Go.Shelf Go.Proofs.YtbpppchkgjcahaaW.PrintWords Go.Proofs.YtbpppchkgjcahaaW.PrintMore L2
set_option linter.unusedVariables false
theorem rdOf_at {p : List ByteArray} {i : Nat} (hi : i < p.length) : rdOf ByteArray.empty p (i : Int) = p[i] := by
  unfold rdOf
  rw [Int.toNat_natCast, List.getD_eq_getElem?_getD, List.getElem?_eq_getElem hi]; rfl
theorem wrap_succ {j : Nat} (h : j ≤ 9000000) : wrap64 ((j : Int) + 1) = ((j + 1 : Nat) : Int) := by unfold wrap64; omega
theorem bt_get {s : ByteArray} {j : Nat} (h : j < (bytesOf s).length) : bt s (j : Int) = (bytesOf s)[j] := by
  rw [← rd_bytesOf]
  unfold rd
  rw [Int.toNat_natCast, List.getD_eq_getElem?_getD, List.getElem?_eq_getElem h]; rfl
def okL (x : Int) : Bool := decide (97 ≤ x) && decide (x ≤ 122)
theorem drop_all {l : List Int} {j : Nat} (h : j < l.length) (f : Int → Bool) : (l.drop j).all f = (f l[j] && (l.drop (j + 1)).all f) := by
  rw [← List.getElem_cons_drop h, List.all_cons]
theorem grid_row (p : List ByteArray) (i : Nat) (hi : i < p.length) (hip : p.length ≤ 2000000) (hsz : p[i].size ≤ 2000000) (R : Bool) (hR : ∃ k, spec_l1Grid.l0 k p ((i + 1 : Nat) : Int) = some R) :
    ∀ d j, p[i].size - j = d → j ≤ p[i].size → ∃ k, spec_l1Grid.l1 k p (i : Int) (j : Int) = some (((bytesOf p[i]).drop j).all okL && R) := by
  intro d
  induction d with
  | zero =>
    intro j hd hj
    obtain ⟨k, hk⟩ := hR
    refine ⟨k + 1, ?_⟩
    unfold spec_l1Grid.l1
    rw [if_pos (by omega), if_pos (by omega), rdOf_at hi, if_neg (by omega), wrap_succ (by omega), hk, List.drop_of_length_le (by rw [bytesOf_length]; omega)]
    rfl
  | succ d ih =>
    intro j hd hj
    have hjl : j < (bytesOf p[i]).length := by rw [bytesOf_length]; omega
    obtain ⟨k, hk⟩ := ih (j + 1) (by omega) (by omega)
    refine ⟨k + 1, ?_⟩
    unfold spec_l1Grid.l1
    rw [if_pos (by omega), if_pos (by omega), rdOf_at hi, if_pos (by omega), if_pos (by omega), bt_get hjl, drop_all hjl]
    by_cases h1 : (bytesOf p[i])[j] < 97
    · rw [if_pos h1]
      have : okL (bytesOf p[i])[j] = false := by unfold okL; rw [decide_eq_false (by omega)]; rfl
      rw [this]; rfl
    · rw [if_neg h1]
      by_cases h2 : (bytesOf p[i])[j] > 122
      · rw [if_pos h2]
        have : okL (bytesOf p[i])[j] = false := by unfold okL; rw [decide_eq_false (show ¬ (bytesOf p[i])[j] ≤ 122 by omega), Bool.and_false]
        rw [this]; rfl
      · rw [if_neg h2, wrap_succ (by omega), hk]
        have : okL (bytesOf p[i])[j] = true := by unfold okL; rw [decide_eq_true (by omega), decide_eq_true (by omega)]; rfl
        rw [this, Bool.true_and]
def rowB (p : List ByteArray) (s : ByteArray) : Bool := decide ((s.size : Int) = ((rdOf ByteArray.empty p 0).size : Int)) && (decide (1 ≤ s.size ∧ s.size ≤ 6) && letB s)
def restB (p : List ByteArray) (i : Nat) : Bool := (p.drop i).all (rowB p) && decide (1 ≤ p.length ∧ p.length ≤ 6)
theorem grid_from (p : List ByteArray) (hip : p.length ≤ 2000000) (hsz : ∀ s ∈ p, s.size ≤ 2000000) : ∀ d i, p.length - i = d → i ≤ p.length → ∃ k, spec_l1Grid.l0 k p (i : Int) = some (restB p i) := by
  intro d
  induction d with
  | zero =>
    intro i hd hi
    refine ⟨1, ?_⟩
    unfold spec_l1Grid.l0 spec_l6In.f restB
    rw [if_neg (by omega), List.drop_of_length_le (by omega)]
    by_cases h1 : 1 ≤ p.length
    · rw [if_pos (by omega)]
      simp only [Option.bind_some, List.all_nil, Bool.true_and]
      congr 1
      rw [Bool.eq_iff_iff, decide_eq_true_eq, decide_eq_true_eq]
      omega
    · rw [if_neg (by omega)]
      simp only [Option.bind_some, List.all_nil, Bool.true_and]
      rw [decide_eq_false (by omega)]
  | succ d ih =>
    intro i hd hi
    have hil : i < p.length := by omega
    have hR := ih (i + 1) (by omega) (by omega)
    have hdr : (p.drop i).all (rowB p) = (rowB p p[i] && (p.drop (i + 1)).all (rowB p)) := by
      rw [← List.getElem_cons_drop hil, List.all_cons]
    have hrest : restB p i = (rowB p p[i] && restB p (i + 1)) := by unfold restB; rw [hdr, Bool.and_assoc]
    obtain ⟨k, hk⟩ := grid_row p i hil hip (hsz _ (List.getElem_mem hil)) _ hR _ 0 rfl (Nat.zero_le _)
    have hl : letB p[i] = ((bytesOf p[i]).drop 0).all okL := by rw [List.drop_zero]; rfl
    refine ⟨k + 2, ?_⟩
    unfold spec_l1Grid.l0
    rw [if_pos (by omega), if_pos (by omega), if_pos (by omega), rdOf_at hil, hrest]
    by_cases h1 : ((p[i].size : Int) = ((rdOf ByteArray.empty p 0).size : Int))
    · rw [if_pos h1]
      have hrow : rowB p p[i] = (decide (1 ≤ p[i].size ∧ p[i].size ≤ 6) && letB p[i]) := by unfold rowB; rw [decide_eq_true h1, Bool.true_and]
      unfold spec_l6In.f
      by_cases h2 : 1 ≤ p[i].size ∧ p[i].size ≤ 6
      · rw [if_pos (by omega), decide_eq_true (by omega)]
        simp only [Option.bind_some]
        unfold spec_l1Grid.j1
        rw [hrow, decide_eq_true h2, Bool.true_and, hl]
        simp only [Bool.not_true, Bool.false_eq_true, if_false]
        exact hk
      · have hneg : (spec_l6In.f (p[i].size : Int) 1 6) = some false := by
          unfold spec_l6In.f
          by_cases h3 : 1 ≤ p[i].size
          · rw [if_pos (by omega), decide_eq_false (by omega)]
          · rw [if_neg (by omega)]
        unfold spec_l6In.f at hneg
        rw [hneg]
        simp only [Option.bind_some]
        unfold spec_l1Grid.j1
        rw [hrow, decide_eq_false h2]
        rfl
    · rw [if_neg h1]
      have hrow : rowB p p[i] = false := by unfold rowB; rw [decide_eq_false h1, Bool.false_and]
      unfold spec_l1Grid.j1
      rw [hrow]
      rfl
theorem grid_f (p : List ByteArray) (hip : p.length ≤ 2000000) (hsz : ∀ s ∈ p, s.size ≤ 2000000) : ∃ k, spec_l1Grid.f k p = some (restB p 0) := grid_from p hip hsz _ 0 rfl (Nat.zero_le _)
theorem grid_is (p : List ByteArray) : restB p 0 = (lettersB p && shapeB (rowsOf p)) := by
  have hlen : (rowsOf p).length = p.length := by unfold rowsOf; rw [List.length_map]
  have hg : ∀ r, ((rowsOf p).getD r []).length = (p.getD r ByteArray.empty).size := fun r => by
    unfold rowsOf
    rw [List.getD_eq_getElem?_getD, List.getD_eq_getElem?_getD, List.getElem?_map]
    cases p[r]? with
    | none => rfl
    | some s => exact bytesOf_length s
  have h0 : (rdOf ByteArray.empty p 0).size = (p.getD 0 ByteArray.empty).size := rfl
  rw [Bool.eq_iff_iff]
  unfold restB lettersB shapeB rowB
  rw [hlen, hg 0]
  simp only [Bool.and_eq_true, List.all_eq_true, decide_eq_true_eq, List.drop_zero, Bool.not_eq_true', List.any_eq_false, List.mem_range, h0, hg]
  constructor
  · rintro ⟨ha, hb1, hb2⟩
    have hp0 : p.getD 0 ByteArray.empty ∈ p := by
      rw [List.getD_eq_getElem?_getD, List.getElem?_eq_getElem (by omega)]
      exact List.getElem_mem _
    have hq := ha _ hp0
    refine ⟨fun s hs => (ha s hs).2.2, ⟨⟨⟨hb1, hb2⟩, hq.2.1.1⟩, hq.2.1.2⟩, fun r hr => ?_⟩
    have := ha p[r] (List.getElem_mem hr)
    rw [List.getD_eq_getElem?_getD, List.getElem?_eq_getElem hr]
    simp only [Option.getD_some, ne_eq, Decidable.not_not]
    exact this.1
  · rintro ⟨hl, ⟨⟨⟨hb1, hb2⟩, hq1⟩, hq2⟩, hall⟩
    refine ⟨fun s hs => ?_, hb1, hb2⟩
    obtain ⟨r, hr, rfl⟩ := List.getElem_of_mem hs
    have := hall r hr
    rw [List.getD_eq_getElem?_getD, List.getElem?_eq_getElem hr] at this
    simp only [Option.getD_some, ne_eq, Decidable.not_not] at this
    exact ⟨this, by omega, hl _ hs⟩
end Go.Proofs.Ytbpppchkgjcahaa
end
section
namespace Go.Proofs.Ytbpppchkgjcahaa
open Go.RowKit Go.Shelf Go.Proofs.YtbpppchkgjcahaaW.PrintWords Go.Proofs.YtbpppchkgjcahaaW.PrintMore L2
set_option linter.unusedVariables false
theorem rd_get {l : List Int} {j : Nat} (h : j < l.length) : rd l (j : Int) = l[j] := by
  unfold rd
  rw [Int.toNat_natCast, List.getD_eq_getElem?_getD, List.getElem?_eq_getElem h]; rfl
theorem letter_wrap {n : Nat} (h : n ≤ 100) : (wrap64 (97 + (n : Int))) % 256 = 97 + (n : Int) := by unfold wrap64; omega
theorem names_look (p : List ByteArray) (i j : Nat) (hi : i < p.length) (hj : j < p[i].size) (hsz : p[i].size ≤ 100) (ord row : List Int) (out : List ByteArray) (ho : ord.length ≤ 100) (hr : row.length ≤ 100) (b : Int) (hb : bt p[i] (j : Int) = b) (R : List ByteArray)
    (hR : ∃ k, spec_l1Names.l1 k p (if b ∈ ord then ord else ord ++ [b]) out (i : Int) (row ++ [97 + ((ord.idxOf b : Nat) : Int)]) ((j + 1 : Nat) : Int) = some R) :
    ∀ d x, ord.idxOf b - x = d → x ≤ ord.idxOf b → ∃ k, spec_l1Names.l2 k p ord out (i : Int) row (j : Int) (x : Int) = some R := by
  have hix : ord.idxOf b ≤ ord.length := List.idxOf_le_length
  intro d
  induction d with
  | zero =>
    intro x hd hx
    have hxe : x = ord.idxOf b := by omega
    obtain ⟨k, hk⟩ := hR
    refine ⟨k + 1, ?_⟩
    unfold spec_l1Names.l2
    by_cases hm : b ∈ ord
    · rw [if_pos hm] at hk
      have hlt : x < ord.length := by rw [hxe]; exact List.idxOf_lt_length_of_mem hm
      have hge : rd ord (x : Int) = b := by rw [rd_get hlt]; subst hxe; exact List.getElem_idxOf hlt
      rw [if_pos (by omega), if_pos (by omega), if_pos (by omega), if_pos (by omega), if_pos (by omega), rdOf_at hi, if_pos (by omega), hge, hb, if_pos rfl, if_neg (by omega), if_pos (by omega), letter_wrap (by omega), wrap_succ (by omega), hxe]
      exact hk
    · rw [if_neg hm] at hk
      have hlen : x = ord.length := by rw [hxe]; exact List.idxOf_eq_length hm
      rw [if_neg (by omega), if_pos (by omega), if_pos (by omega), if_pos (by omega), if_pos (by omega), rdOf_at hi, if_pos (by omega), if_pos (by omega), if_pos (by omega), letter_wrap (by omega), wrap_succ (by omega), hb, hxe]
      exact hk
  | succ d ih =>
    intro x hd hx
    have hlt : x < ord.length := by omega
    have hne : rd ord (x : Int) ≠ b := by
      rw [rd_get hlt]
      intro e
      have h1 := List.not_of_lt_findIdx (p := (· == b)) (xs := ord) (i := x) (show x < ord.findIdx (· == b) from (by have : ord.findIdx (· == b) = ord.idxOf b := rfl; omega))
      simp [e] at h1
    obtain ⟨k, hk⟩ := ih (x + 1) (by omega) (by omega)
    refine ⟨k + 1, ?_⟩
    unfold spec_l1Names.l2
    rw [if_pos (by omega), if_pos (by omega), if_pos (by omega), if_pos (by omega), if_pos (by omega), rdOf_at hi, if_pos (by omega), hb, if_neg hne, wrap_succ (by omega)]
    exact hk
theorem names_text (row : List Int) (h : ∀ k ∈ row, (0 : Int) ≤ k ∧ k ≤ 100) : strOfNums (row.map fun k => 97 + k) = rowText row := by
  unfold strOfNums rowText rowBytes
  congr 2
  rw [List.map_map]
  rfl
def numRow (wd : Nat) (f : Nat → Int) (i j : Nat) : List Int := (List.range j).map fun c => ((numAt wd f (i * wd + c) : Nat) : Int)
theorem names_row (p : List ByteArray) (wd : Nat) (f : Nat → Int) (i : Nat) (hi : i < p.length) (hip : p.length ≤ 6) (hwd : wd ≤ 6) (hsz : p[i].size = wd) (hf : ∀ c, c < wd → bt p[i] (c : Int) = f (i * wd + c)) (out : List ByteArray) (hol : out.length ≤ 100) (R : List ByteArray)
    (hR : ∃ k, spec_l1Names.l0 k p (scan wd f ((i + 1) * wd)).1 (out ++ [strOfNums ((numRow wd f i wd).map fun k => 97 + k)]) ((i + 1 : Nat) : Int) = some R) :
    ∀ d j, wd - j = d → j ≤ wd → ∃ k, spec_l1Names.l1 k p (scan wd f (i * wd + j)).1 out (i : Int) ((numRow wd f i j).map fun k => 97 + k) (j : Int) = some R := by
  intro d
  induction d with
  | zero =>
    intro j hd hj
    have hjw : j = wd := by omega
    subst hjw
    obtain ⟨k, hk⟩ := hR
    refine ⟨k + 1, ?_⟩
    unfold spec_l1Names.l1
    rw [if_pos (by omega), if_pos (by omega), rdOf_at hi, if_neg (by omega), if_pos (by omega), wrap_succ (by omega)]
    rw [Nat.succ_mul] at hk
    exact hk
  | succ d ih =>
    intro j hd hj
    obtain ⟨k, hk⟩ := ih (j + 1) (by omega) (by omega)
    have hbound : i * wd + j ≤ 100 := by
      have : i * wd ≤ 5 * 6 := Nat.mul_le_mul (by omega) hwd
      omega
    have hb := hf j (by omega)
    have hsc : (scan wd f (i * wd + (j + 1))).1 = if f (i * wd + j) ∈ (scan wd f (i * wd + j)).1 then (scan wd f (i * wd + j)).1 else (scan wd f (i * wd + j)).1 ++ [f (i * wd + j)] := scan_fst (i * wd + j)
    have hrow : (numRow wd f i (j + 1)).map (fun k => 97 + k) = (numRow wd f i j).map (fun k => 97 + k) ++ [97 + (((scan wd f (i * wd + j)).1.idxOf (f (i * wd + j)) : Nat) : Int)] := by
      unfold numRow
      rw [List.range_succ, List.map_append, List.map_append]
      rfl
    obtain ⟨k2, hk2⟩ := names_look p i j hi (by omega) (by omega) (scan wd f (i * wd + j)).1 ((numRow wd f i j).map fun k => 97 + k) out (Nat.le_trans (scan_len_le _ _ _) hbound) (by unfold numRow; rw [List.length_map, List.length_map, List.length_range]; omega) (f (i * wd + j)) hb R ⟨k, by rw [← hsc, ← hrow]; exact hk⟩ _ 0 rfl (Nat.zero_le _)
    refine ⟨k2 + 1, ?_⟩
    unfold spec_l1Names.l1
    rw [if_pos (by omega), if_pos (by omega), rdOf_at hi, if_pos (by omega)]
    exact hk2
theorem names_from (p : List ByteArray) (wd : Nat) (f : Nat → Int) (hip : p.length ≤ 6) (hwd : wd ≤ 6) (hsz : ∀ i (hi : i < p.length), p[i].size = wd) (hf : ∀ i c (hi : i < p.length), c < wd → bt p[i] (c : Int) = f (i * wd + c)) :
    ∀ d i, p.length - i = d → i ≤ p.length → ∃ k, spec_l1Names.l0 k p (scan wd f (i * wd)).1 ((List.range i).map fun r => strOfNums ((numRow wd f r wd).map fun k => 97 + k)) (i : Int) = some ((List.range p.length).map fun r => strOfNums ((numRow wd f r wd).map fun k => 97 + k)) := by
  intro d
  induction d with
  | zero =>
    intro i hd hi
    have : i = p.length := by omega
    subst this
    refine ⟨1, ?_⟩
    unfold spec_l1Names.l0
    rw [if_neg (by omega)]
  | succ d ih =>
    intro i hd hi
    have hil : i < p.length := by omega
    have hR := ih (i + 1) (by omega) (by omega)
    rw [List.range_succ, List.map_append] at hR
    obtain ⟨k, hk⟩ := names_row p wd f i hil hip hwd (hsz i hil) (fun c hc => hf i c hil hc) ((List.range i).map fun r => strOfNums ((numRow wd f r wd).map fun k => 97 + k)) (by rw [List.length_map, List.length_range]; omega) _ hR _ 0 rfl (Nat.zero_le _)
    refine ⟨k + 1, ?_⟩
    unfold spec_l1Names.l0
    rw [if_pos (by omega)]
    exact hk
theorem names_f (p : List ByteArray) (h : (lettersB p && shapeB (rowsOf p)) = true) : ∃ k, spec_l1Names.f k p = some ((numsOf (rowsOf p)).map rowText) := by
  have hlen : (rowsOf p).length = p.length := by unfold rowsOf; rw [List.length_map]
  rw [Bool.and_eq_true] at h
  obtain ⟨_, hs⟩ := h
  have hg : ∀ r (hr : r < p.length), (rowsOf p)[r]? = some (bytesOf p[r]) := fun r hr => by unfold rowsOf; rw [List.getElem?_map, List.getElem?_eq_getElem hr]; rfl
  unfold shapeB at hs
  simp only [Bool.and_eq_true, decide_eq_true_eq, Bool.not_eq_true', List.any_eq_false, List.mem_range, hlen, ne_eq, Decidable.not_not] at hs
  obtain ⟨⟨⟨⟨h1, h2⟩, h3⟩, h4⟩, h5⟩ := hs
  have hsz : ∀ i (hi : i < p.length), p[i].size = ((rowsOf p).getD 0 []).length := fun i hi => by
    have := h5 i hi
    rw [List.getD_eq_getElem?_getD, hg i hi, Option.getD_some, bytesOf_length] at this
    omega
  have hf : ∀ i c (hi : i < p.length), c < ((rowsOf p).getD 0 []).length → bt p[i] (c : Int) = cellOf (rowsOf p) ((rowsOf p).getD 0 []).length (i * ((rowsOf p).getD 0 []).length + c) := fun i c hi hc => by
    have hcb : c < (bytesOf p[i]).length := by rw [bytesOf_length, hsz i hi]; exact hc
    rw [cellOf_at hc (hg i hi), bt_get hcb, List.getD_eq_getElem?_getD, List.getElem?_eq_getElem hcb]; rfl
  obtain ⟨k, hk⟩ := names_from p _ _ h2 h4 hsz hf _ 0 rfl (Nat.zero_le _)
  refine ⟨k, ?_⟩
  rw [Nat.zero_mul] at hk
  have hnum : (numsOf (rowsOf p)).map rowText = (List.range p.length).map fun r => strOfNums ((numRow ((rowsOf p).getD 0 []).length (cellOf (rowsOf p) ((rowsOf p).getD 0 []).length) r ((rowsOf p).getD 0 []).length).map fun k => 97 + k) := by
    unfold numsOf
    rw [hlen, List.map_map]
    apply List.map_congr_left
    intro r hr
    have hr := List.mem_range.1 hr
    show rowText _ = _
    rw [names_text]
    · rfl
    · intro k hk
      unfold numRow at hk
      obtain ⟨c, hc, rfl⟩ := List.mem_map.1 hk
      have hc := List.mem_range.1 hc
      refine ⟨Int.natCast_nonneg _, ?_⟩
      have h7 : numAt ((rowsOf p).getD 0 []).length (cellOf (rowsOf p) ((rowsOf p).getD 0 []).length) (r * ((rowsOf p).getD 0 []).length + c) ≤ r * ((rowsOf p).getD 0 []).length + c := by
        unfold numAt
        exact Nat.le_trans List.idxOf_le_length (scan_len_le _ _ _)
      have h8 : r * ((rowsOf p).getD 0 []).length ≤ 5 * 6 := Nat.mul_le_mul (by omega) h4
      omega
  rw [hnum]
  exact hk
end Go.Proofs.Ytbpppchkgjcahaa
end
section
namespace Go.Proofs.Ytbpppchkgjcahaa
open Go.RowKit Go.Shelf Go.Proofs.YtbpppchkgjcahaaW.PrintWords Go.Proofs.YtbpppchkgjcahaaW.PrintMore L2
set_option linter.unusedVariables false
theorem same_from (a b : List ByteArray) (hl : a.length = b.length) (hm : a.length ≤ 2000000) : ∀ d i, a.length - i = d → i ≤ a.length → ∃ k, spec_l1Same.l0 k a b (i : Int) = some (decide (a.drop i = b.drop i)) := by
  intro d
  induction d with
  | zero =>
    intro i hd hi
    refine ⟨1, ?_⟩
    unfold spec_l1Same.l0
    rw [if_neg (by omega), List.drop_of_length_le (by omega), List.drop_of_length_le (by omega)]
    rfl
  | succ d ih =>
    intro i hd hi
    have hia : i < a.length := by omega
    have hib : i < b.length := by omega
    obtain ⟨k, hk⟩ := ih (i + 1) (by omega) (by omega)
    refine ⟨k + 1, ?_⟩
    unfold spec_l1Same.l0
    rw [if_pos (by omega), if_pos (by omega), if_pos (by omega), rdOf_at hia, rdOf_at hib, show a.drop i = a[i] :: a.drop (i + 1) from (List.getElem_cons_drop hia).symm, show b.drop i = b[i] :: b.drop (i + 1) from (List.getElem_cons_drop hib).symm]
    by_cases h : a[i] = b[i]
    · rw [h, if_pos rfl, wrap_succ (by omega), hk]
      congr 1
      rw [Bool.eq_iff_iff, decide_eq_true_eq, decide_eq_true_eq]
      exact ⟨fun e => by rw [e], fun e => by injection e⟩
    · rw [if_neg (fun e => h (by
        rw [toList_data, toList_data] at e
        exact ByteArray.ext (Array.toList_inj.1 e)))]
      rw [decide_eq_false]
      intro e
      injection e with e1 _
      exact h e1
theorem same_f (a b : List ByteArray) (hm : a.length ≤ 2000000) (hb : b.length ≤ 2000000) : ∃ k, spec_l1Same.f k a b = some (decide (a = b)) := by
  by_cases hl : a.length = b.length
  · obtain ⟨k, hk⟩ := same_from a b hl hm _ 0 rfl (Nat.zero_le _)
    refine ⟨k, ?_⟩
    unfold spec_l1Same.f
    rw [if_pos (by omega)]
    exact hk
  · refine ⟨0, ?_⟩
    unfold spec_l1Same.f
    rw [if_neg (by omega), decide_eq_false (fun e => hl (by rw [e]))]
structure TextGrid (p : List ByteArray) (wd : Nat) (f : Nat → Int) : Prop where
  high : p.length ≤ 6
  wide : wd ≤ 6
  size : ∀ i (hi : i < p.length), p[i].size = wd
  cell : ∀ i c (hi : i < p.length), c < wd → bt p[i] (c : Int) = f (i * wd + c)
  let_ : ∀ n, n < p.length * wd → 97 ≤ f n ∧ f n ≤ 122
theorem TextGrid.at_ {p : List ByteArray} {wd : Nat} {f : Nat → Int} (h : TextGrid p wd f) {i c : Nat} (hi : i < p.length) (hc : c < wd) : i * wd + c < p.length * wd ∧ i * wd + c ≤ 100 := by
  have h1 : (i + 1) * wd ≤ p.length * wd := Nat.mul_le_mul_right _ hi
  have h2 : p.length * wd ≤ 6 * 6 := Nat.mul_le_mul h.high h.wide
  rw [Nat.succ_mul] at h1
  omega
def rmx (f : Nat → Int) : Nat → Int
  | 0 => 0
  | n + 1 => mx (rmx f n) (f n - 97 + 1)
theorem rooms_row {p : List ByteArray} {wd : Nat} {f : Nat → Int} (h : TextGrid p wd f) (i : Nat) (hi : i < p.length) (R : Int) (hR : ∃ k, spec_l1Rooms.l0 k p (rmx f ((i + 1) * wd)) ((i + 1 : Nat) : Int) = some R) :
    ∀ d j, wd - j = d → j ≤ wd → ∃ k, spec_l1Rooms.l1 k p (rmx f (i * wd + j)) (i : Int) (j : Int) = some R := by
  have hs := h.size i hi
  have hh := h.high
  have hw := h.wide
  intro d
  induction d with
  | zero =>
    intro j hd hj
    have hjw : j = wd := by omega
    subst hjw
    obtain ⟨k, hk⟩ := hR
    refine ⟨k + 1, ?_⟩
    unfold spec_l1Rooms.l1
    rw [if_pos (by omega), if_pos (by omega), rdOf_at hi, if_neg (by omega), wrap_succ (by omega)]
    rw [Nat.succ_mul] at hk
    exact hk
  | succ d ih =>
    intro j hd hj
    obtain ⟨k, hk⟩ := ih (j + 1) (by omega) (by omega)
    have hl := h.let_ _ (h.at_ hi (show j < wd by omega)).1
    refine ⟨k + 1, ?_⟩
    unfold spec_l1Rooms.l1
    rw [if_pos (by omega), if_pos (by omega), rdOf_at hi, if_pos (by omega), if_pos (by omega), h.cell i j hi (by omega), wrap_succ (by omega)]
    have hwr : wrap64 (wrap64 (wrap64 (f (i * wd + j)) - 97) + 1) = f (i * wd + j) - 97 + 1 := by unfold wrap64; omega
    rw [hwr]
    exact hk
theorem rooms_from {p : List ByteArray} {wd : Nat} {f : Nat → Int} (h : TextGrid p wd f) : ∀ d i, p.length - i = d → i ≤ p.length → ∃ k, spec_l1Rooms.l0 k p (rmx f (i * wd)) (i : Int) = some (rmx f (p.length * wd)) := by
  intro d
  induction d with
  | zero =>
    intro i hd hi
    have : i = p.length := by omega
    subst this
    refine ⟨1, ?_⟩
    unfold spec_l1Rooms.l0
    rw [if_neg (by omega)]
  | succ d ih =>
    intro i hd hi
    obtain ⟨k, hk⟩ := rooms_row h i (by omega) _ (ih (i + 1) (by omega) (by omega)) _ 0 rfl (Nat.zero_le _)
    refine ⟨k + 1, ?_⟩
    unfold spec_l1Rooms.l0
    rw [if_pos (by omega)]
    exact hk
theorem rooms_f {p : List ByteArray} {wd : Nat} {f : Nat → Int} (h : TextGrid p wd f) : ∃ k, spec_l1Rooms.f k p = some (rmx f (p.length * wd)) := by
  obtain ⟨k, hk⟩ := rooms_from h _ 0 rfl (Nat.zero_le _)
  rw [Nat.zero_mul] at hk
  exact ⟨k, hk⟩
theorem rmx_named {wd : Nat} {f : Nat → Int} {N : Nat} (h : Named wd f N) : ∀ n, n ≤ N → rmx f n = ((scan wd f n).1.length : Int) := by
  intro n
  induction n with
  | zero => intro _; rfl
  | succ n ih =>
    intro hn
    have e := h n (by omega)
    show mx (rmx f n) (f n - 97 + 1) = _
    rw [ih (by omega), scan_fst]
    unfold numAt at e
    by_cases hm : f n ∈ (scan wd f n).1
    · have := List.idxOf_lt_length_of_mem hm
      rw [if_pos hm]
      unfold mx
      omega
    · have := List.idxOf_eq_length hm
      rw [if_neg hm, List.length_append, List.length_singleton]
      unfold mx
      omega
theorem cells_row {p : List ByteArray} {wd : Nat} {f : Nat → Int} (h : TextGrid p wd f) (r : Int) (hr : 0 ≤ r ∧ r ≤ 100) (i : Nat) (hi : i < p.length) (R : Int) (hR : ∃ k, spec_l1Cells.l0 k p r ((cntX f (97 + r) ((i + 1) * wd) : Nat) : Int) ((i + 1 : Nat) : Int) = some R) :
    ∀ d j, wd - j = d → j ≤ wd → ∃ k, spec_l1Cells.l1 k p r ((cntX f (97 + r) (i * wd + j) : Nat) : Int) (i : Int) (j : Int) = some R := by
  have hs := h.size i hi
  have hh := h.high
  have hw := h.wide
  intro d
  induction d with
  | zero =>
    intro j hd hj
    have hjw : j = wd := by omega
    subst hjw
    obtain ⟨k, hk⟩ := hR
    refine ⟨k + 1, ?_⟩
    unfold spec_l1Cells.l1
    rw [if_pos (by omega), if_pos (by omega), rdOf_at hi, if_neg (by omega), wrap_succ (by omega)]
    rw [Nat.succ_mul] at hk
    exact hk
  | succ d ih =>
    intro j hd hj
    obtain ⟨k, hk⟩ := ih (j + 1) (by omega) (by omega)
    have hl := h.let_ _ (h.at_ hi (show j < wd by omega)).1
    have hc : cntX f (97 + r) (i * wd + (j + 1)) = cntX f (97 + r) (i * wd + j) + if f (i * wd + j) = 97 + r then 1 else 0 := rfl
    have hcl : cntX f (97 + r) (i * wd + j) ≤ 100 := by
      have h1 : cntX f (97 + r) (i * wd + j) ≤ sumTo (fun _ => 1) (i * wd + j) := sumTo_le (fun m _ => by split <;> omega)
      have h2 : ∀ n, sumTo (fun _ => 1) n = n := fun n => by induction n with
        | zero => rfl
        | succ n ih => show sumTo _ n + 1 = _; rw [ih]
      rw [h2] at h1
      have := (h.at_ hi (show j < wd by omega)).2
      omega
    refine ⟨k + 1, ?_⟩
    unfold spec_l1Cells.l1
    rw [if_pos (by omega), if_pos (by omega), rdOf_at hi, if_pos (by omega), if_pos (by omega), h.cell i j hi (by omega), wrap_succ (by omega)]
    have hwr : wrap64 (wrap64 (f (i * wd + j)) - 97) = f (i * wd + j) - 97 := by unfold wrap64; omega
    rw [hwr]
    by_cases he : f (i * wd + j) = 97 + r
    · rw [if_pos (by omega), wrap_succ (by omega)]
      rw [hc, if_pos he] at hk
      exact hk
    · rw [if_neg (by omega), wrap_succ (j := j) (by omega)]
      rw [hc, if_neg he, Nat.add_zero] at hk
      exact hk
theorem cells_from {p : List ByteArray} {wd : Nat} {f : Nat → Int} (h : TextGrid p wd f) (r : Int) (hr : 0 ≤ r ∧ r ≤ 100) : ∀ d i, p.length - i = d → i ≤ p.length → ∃ k, spec_l1Cells.l0 k p r ((cntX f (97 + r) (i * wd) : Nat) : Int) (i : Int) = some ((cntX f (97 + r) (p.length * wd) : Nat) : Int) := by
  intro d
  induction d with
  | zero =>
    intro i hd hi
    have : i = p.length := by omega
    subst this
    refine ⟨1, ?_⟩
    unfold spec_l1Cells.l0
    rw [if_neg (by omega)]
  | succ d ih =>
    intro i hd hi
    obtain ⟨k, hk⟩ := cells_row h r hr i (by omega) _ (ih (i + 1) (by omega) (by omega)) _ 0 rfl (Nat.zero_le _)
    refine ⟨k + 1, ?_⟩
    unfold spec_l1Cells.l0
    rw [if_pos (by omega)]
    exact hk
theorem cells_f {p : List ByteArray} {wd : Nat} {f : Nat → Int} (h : TextGrid p wd f) (r : Int) (hr : 0 ≤ r ∧ r ≤ 100) : ∃ k, spec_l1Cells.f k p r = some ((cntX f (97 + r) (p.length * wd) : Nat) : Int) := by
  obtain ⟨k, hk⟩ := cells_from h r hr _ 0 rfl (Nat.zero_le _)
  rw [Nat.zero_mul] at hk
  exact ⟨k, hk⟩
abbrev Ends := Int × Int × Int × Int
def endsOf (wd : Nat) (f : Nat → Int) (r : Int) (H W : Int) : Nat → Ends
  | 0 => (H, W, -1, -1)
  | n + 1 => if f n = 97 + r then (mn (endsOf wd f r H W n).1 ((n / wd : Nat) : Int), mn (endsOf wd f r H W n).2.1 ((n % wd : Nat) : Int), mx (endsOf wd f r H W n).2.2.1 ((n / wd : Nat) : Int), mx (endsOf wd f r H W n).2.2.2 ((n % wd : Nat) : Int)) else endsOf wd f r H W n
theorem room_row {p : List ByteArray} {wd : Nat} {f : Nat → Int} (h : TextGrid p wd f) (r H W : Int) (i : Nat) (hi : i < p.length) (R : Ends) (hR : ∃ k, spec_l1Room.l0 k p r (endsOf wd f r H W ((i + 1) * wd)).1 (endsOf wd f r H W ((i + 1) * wd)).2.1 (endsOf wd f r H W ((i + 1) * wd)).2.2.1 (endsOf wd f r H W ((i + 1) * wd)).2.2.2 ((i + 1 : Nat) : Int) = some R) (hr : 0 ≤ r ∧ r ≤ 100) :
    ∀ d j, wd - j = d → j ≤ wd → ∃ k, spec_l1Room.l1 k p r (endsOf wd f r H W (i * wd + j)).1 (endsOf wd f r H W (i * wd + j)).2.1 (endsOf wd f r H W (i * wd + j)).2.2.1 (endsOf wd f r H W (i * wd + j)).2.2.2 (i : Int) (j : Int) = some R := by
  have hs := h.size i hi
  have hh := h.high
  have hw := h.wide
  intro d
  induction d with
  | zero =>
    intro j hd hj
    have hjw : j = wd := by omega
    subst hjw
    obtain ⟨k, hk⟩ := hR
    refine ⟨k + 1, ?_⟩
    unfold spec_l1Room.l1
    rw [if_pos (by omega), if_pos (by omega), rdOf_at hi, if_neg (by omega), wrap_succ (by omega)]
    rw [Nat.succ_mul] at hk
    exact hk
  | succ d ih =>
    intro j hd hj
    obtain ⟨k, hk⟩ := ih (j + 1) (by omega) (by omega)
    have hl := h.let_ _ (h.at_ hi (show j < wd by omega)).1
    have hstep : endsOf wd f r H W (i * wd + (j + 1)) = if f (i * wd + j) = 97 + r then (mn (endsOf wd f r H W (i * wd + j)).1 (i : Int), mn (endsOf wd f r H W (i * wd + j)).2.1 (j : Int), mx (endsOf wd f r H W (i * wd + j)).2.2.1 (i : Int), mx (endsOf wd f r H W (i * wd + j)).2.2.2 (j : Int)) else endsOf wd f r H W (i * wd + j) := by
      show endsOf wd f r H W ((i * wd + j) + 1) = _
      unfold endsOf
      rw [(div_row (show j < wd by omega)).1, (div_row (show j < wd by omega)).2]
      cases h0 : i * wd + j <;> rfl
    refine ⟨k + 1, ?_⟩
    unfold spec_l1Room.l1
    rw [if_pos (by omega), if_pos (by omega), rdOf_at hi, if_pos (by omega), if_pos (by omega), h.cell i j hi (by omega), wrap_succ (j := j) (by omega)]
    have hwr : wrap64 (wrap64 (f (i * wd + j)) - 97) = f (i * wd + j) - 97 := by unfold wrap64; omega
    rw [hwr]
    by_cases he : f (i * wd + j) = 97 + r
    · rw [if_pos (by omega)]
      rw [hstep, if_pos he] at hk
      exact hk
    · rw [if_neg (by omega)]
      rw [hstep, if_neg he] at hk
      exact hk
end Go.Proofs.Ytbpppchkgjcahaa
end
section
namespace Go.Proofs.Ytbpppchkgjcahaa
open Go.RowKit Go.Shelf Go.Proofs.YtbpppchkgjcahaaW.PrintWords Go.Proofs.YtbpppchkgjcahaaW.PrintMore L2
set_option linter.unusedVariables false
theorem room_from {p : List ByteArray} {wd : Nat} {f : Nat → Int} (h : TextGrid p wd f) (r H W : Int) (hr : 0 ≤ r ∧ r ≤ 100) : ∀ d i, p.length - i = d → i ≤ p.length → ∃ k, spec_l1Room.l0 k p r (endsOf wd f r H W (i * wd)).1 (endsOf wd f r H W (i * wd)).2.1 (endsOf wd f r H W (i * wd)).2.2.1 (endsOf wd f r H W (i * wd)).2.2.2 (i : Int) =
    some ((endsOf wd f r H W (p.length * wd)).1, (endsOf wd f r H W (p.length * wd)).2.1, wrap64 (wrap64 ((endsOf wd f r H W (p.length * wd)).2.2.1 - (endsOf wd f r H W (p.length * wd)).1) + 1), wrap64 (wrap64 ((endsOf wd f r H W (p.length * wd)).2.2.2 - (endsOf wd f r H W (p.length * wd)).2.1) + 1)) := by
  intro d
  induction d with
  | zero =>
    intro i hd hi
    have : i = p.length := by omega
    subst this
    refine ⟨1, ?_⟩
    unfold spec_l1Room.l0
    rw [if_neg (by omega)]
  | succ d ih =>
    intro i hd hi
    obtain ⟨k, hk⟩ := room_row h r H W i (by omega) _ (ih (i + 1) (by omega) (by omega)) hr _ 0 rfl (Nat.zero_le _)
    refine ⟨k + 1, ?_⟩
    unfold spec_l1Room.l0
    rw [if_pos (by omega)]
    exact hk
def boxE (e : Ends) : Box := (e.1, e.2.1, e.2.2.1 - e.1 + 1, e.2.2.2 - e.2.1 + 1)
theorem ends_none {wd : Nat} {f : Nat → Int} {r H W : Int} : ∀ n, (∀ m, m < n → f m ≠ 97 + r) → endsOf wd f r H W n = (H, W, -1, -1) := by
  intro n
  induction n with
  | zero => intro _; rfl
  | succ n ih =>
    intro h
    unfold endsOf
    rw [if_neg (h n (by omega))]
    exact ih (fun m hm => h m (by omega))
theorem ends_box {wd : Nat} {f : Nat → Int} {r H W : Int} (N : Nat) (hH : ∀ m, m < N → ((m / wd : Nat) : Int) ≤ H) (hW : ∀ m, m < N → ((m % wd : Nat) : Int) ≤ W) : ∀ n, n ≤ N → (∃ m, m < n ∧ f m = 97 + r) → IsBox wd f n (97 + r) (boxE (endsOf wd f r H W n)) := by
  intro n
  induction n with
  | zero => rintro _ ⟨m, hm, _⟩; omega
  | succ n ih =>
    rintro hn ⟨m, hm, he⟩
    by_cases hf : f n = 97 + r
    · have hstep : endsOf wd f r H W (n + 1) = (mn (endsOf wd f r H W n).1 ((n / wd : Nat) : Int), mn (endsOf wd f r H W n).2.1 ((n % wd : Nat) : Int), mx (endsOf wd f r H W n).2.2.1 ((n / wd : Nat) : Int), mx (endsOf wd f r H W n).2.2.2 ((n % wd : Nat) : Int)) := by
        show (if f n = 97 + r then _ else _) = _
        rw [if_pos hf]
      rw [hstep]
      by_cases hex : ∃ m, m < n ∧ f m = 97 + r
      · have hb := ih (by omega) hex
        have hb2 := hb
        rw [← hf] at hb2
        have hm := isBox_more hb2
        rw [hf] at hm
        have e : boxE (mn (endsOf wd f r H W n).1 ((n / wd : Nat) : Int), mn (endsOf wd f r H W n).2.1 ((n % wd : Nat) : Int), mx (endsOf wd f r H W n).2.2.1 ((n / wd : Nat) : Int), mx (endsOf wd f r H W n).2.2.2 ((n % wd : Nat) : Int)) = bothB (boxE (endsOf wd f r H W n)) (cellBox wd n) := by
          unfold boxE bothB cellBox mn mx
          dsimp only
          generalize (endsOf wd f r H W n).1 = a
          generalize (endsOf wd f r H W n).2.1 = b
          generalize (endsOf wd f r H W n).2.2.1 = c
          generalize (endsOf wd f r H W n).2.2.2 = d
          generalize ((n / wd : Nat) : Int) = x
          generalize ((n % wd : Nat) : Int) = y
          refine Prod.ext ?_ (Prod.ext ?_ (Prod.ext ?_ ?_)) <;> dsimp only <;> omega
        rw [e]
        exact hm
      · have hno : ∀ m, m < n → f m ≠ 97 + r := fun m h1 h2 => hex ⟨m, h1, h2⟩
        rw [ends_none n hno]
        have hb := isBox_new (w := wd) (f := f) (n := n) (fun m h1 h2 => hno m h1 (h2.trans hf))
        rw [hf] at hb
        have e : boxE (mn H ((n / wd : Nat) : Int), mn W ((n % wd : Nat) : Int), mx (-1) ((n / wd : Nat) : Int), mx (-1) ((n % wd : Nat) : Int)) = bothB (cellBox wd n) (cellBox wd n) := by
          have h1 := hH n (by omega)
          have h2 := hW n (by omega)
          have h3 : (0 : Int) ≤ ((n / wd : Nat) : Int) := Int.natCast_nonneg _
          have h4 : (0 : Int) ≤ ((n % wd : Nat) : Int) := Int.natCast_nonneg _
          revert h1 h2 h3 h4
          unfold boxE bothB cellBox mn mx
          dsimp only
          generalize ((n / wd : Nat) : Int) = x
          generalize ((n % wd : Nat) : Int) = y
          intro h1 h2 h3 h4
          refine Prod.ext ?_ (Prod.ext ?_ (Prod.ext ?_ ?_)) <;> dsimp only <;> omega
        rw [e]
        exact hb
    · have hstep : endsOf wd f r H W (n + 1) = endsOf wd f r H W n := by
        show (if f n = 97 + r then _ else _) = _
        rw [if_neg hf]
      rw [hstep]
      refine isBox_other hf (ih (by omega) ⟨m, ?_, he⟩)
      by_cases h : m = n
      · subst h; exact absurd he hf
      · omega
theorem room_f {p : List ByteArray} {wd : Nat} {f : Nat → Int} (h : TextGrid p wd f) (h1 : 1 ≤ p.length) (r : Int) (hr : 0 ≤ r ∧ r ≤ 100) (hex : ∃ m, m < p.length * wd ∧ f m = 97 + r) :
    ∃ k b, spec_l1Room.f k p r = some b ∧ IsBox wd f (p.length * wd) (97 + r) b := by
  have hw : 0 < wd := by
    obtain ⟨m, hm, _⟩ := hex
    rcases Nat.eq_zero_or_pos wd with e | e
    · rw [e, Nat.mul_zero] at hm; omega
    · exact e
  have hb := ends_box (r := r) (H := (p.length : Int)) (W := (wd : Int)) (p.length * wd) (fun m hm => by
    have h9 : m / wd < p.length := Nat.div_lt_of_lt_mul (by rw [Nat.mul_comm]; exact hm)
    exact Int.ofNat_le.2 (Nat.le_of_lt h9)) (fun m hm => by have := Nat.mod_lt m hw; omega) (p.length * wd) (Nat.le_refl _) hex
  obtain ⟨k, hk⟩ := room_from h r (p.length : Int) (wd : Int) hr _ 0 rfl (Nat.zero_le _)
  rw [Nat.zero_mul] at hk
  have hsz : ((rdOf ByteArray.empty p 0).size : Int) = (wd : Int) := by
    have := rdOf_at (p := p) (i := 0) (by omega)
    rw [show ((0 : Nat) : Int) = 0 from rfl] at this
    rw [this, h.size 0 (by omega)]
  refine ⟨k, boxE (endsOf wd f r (p.length : Int) (wd : Int) (p.length * wd)), ?_, hb⟩
  unfold spec_l1Room.f
  rw [if_pos (by omega), hsz]
  have hN : p.length * wd ≤ 36 := Nat.mul_le_mul h.high h.wide
  have bd : ∀ m, m < p.length * wd → ((m / wd : Nat) : Int) ≤ 36 ∧ ((m % wd : Nat) : Int) ≤ 36 := fun m hm => by
    have e1 := Nat.div_le_self m wd
    have e3 := Nat.mod_le m wd
    omega
  obtain ⟨p1, p2, p3, p4⟩ := box_nonneg hb
  obtain ⟨m1, a1, a2, a3⟩ := hb.top
  obtain ⟨m2, b1, b2, b3⟩ := hb.low
  obtain ⟨m3, c1, c2, c3⟩ := hb.left
  obtain ⟨m4, d1, d2, d3⟩ := hb.right
  have f1 := bd m1 a1
  have f2 := bd m2 b1
  have f3 := bd m3 c1
  have f4 := bd m4 d1
  refine hk.trans ?_
  revert p1 p2 p3 p4 a3 b3 c3 d3
  unfold boxE
  dsimp only
  generalize (endsOf wd f r (p.length : Int) (wd : Int) (p.length * wd)).1 = a
  generalize (endsOf wd f r (p.length : Int) (wd : Int) (p.length * wd)).2.1 = b
  generalize (endsOf wd f r (p.length : Int) (wd : Int) (p.length * wd)).2.2.1 = c
  generalize (endsOf wd f r (p.length : Int) (wd : Int) (p.length * wd)).2.2.2 = d
  intro p1 p2 p3 p4 a3 b3 c3 d3
  have e1 : wrap64 (wrap64 (c - a) + 1) = c - a + 1 := by unfold wrap64; omega
  have e2 : wrap64 (wrap64 (d - b) + 1) = d - b + 1 := by unfold wrap64; omega
  rw [e1, e2]
end Go.Proofs.Ytbpppchkgjcahaa
end
