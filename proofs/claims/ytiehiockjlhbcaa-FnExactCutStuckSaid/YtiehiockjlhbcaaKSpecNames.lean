/- The reference's names are the numbers of the scan, in plain Lean. -/
import Derived.Test.YtiehiockjlhbcaaKSpecGrid
namespace Go.Proofs.Ytiehiockjlhbcaa
open Go.RowKit Go.Shelf Go.Proofs.YtiehiockjlhbcaaW.PrintWords Go.Proofs.YtiehiockjlhbcaaW.PrintMore L2
set_option linter.unusedVariables false

theorem rd_get {l : List Int} {j : Nat} (h : j < l.length) : rd l (j : Int) = l[j] := by
  unfold rd
  rw [Int.toNat_natCast, List.getD_eq_getElem?_getD, List.getElem?_eq_getElem h]; rfl
theorem letter_wrap {n : Nat} (h : n ≤ 100) : (wrap64 (97 + (n : Int))) % 256 = 97 + (n : Int) := by unfold wrap64; omega
/-- One letter is looked up. -/
theorem names_look (p : List ByteArray) (i j : Nat) (hi : i < p.length) (hj : j < p[i].size) (hsz : p[i].size ≤ 100) (ord row : List Int) (out : List ByteArray) (ho : ord.length ≤ 100) (hr : row.length ≤ 100) (b : Int) (hb : bt p[i] (j : Int) = b) (R : List ByteArray)
    (hR : ∃ k, spec_l1Names.l1 k p (if b ∈ ord then ord else ord ++ [b]) out (i : Int) (row ++ [97 + ((ord.idxOf b : Nat) : Int)]) ((j + 1 : Nat) : Int) = some R) :
    ∀ d x, ord.idxOf b - x = d → x ≤ ord.idxOf b → ∃ k, spec_l1Names.l2 k p ord out (i : Int) row (j : Int) (x : Int) = some R := by
  have hix : ord.idxOf b ≤ ord.length := List.idxOf_le_length
  intro d
  induction d with
  | zero =>
    intro x hd hx
    have hxe : x = ord.idxOf b := by omega
    obtain ⟨k, hk⟩ := hR
    refine ⟨k + 1, ?_⟩
    unfold spec_l1Names.l2
    by_cases hm : b ∈ ord
    · rw [if_pos hm] at hk
      have hlt : x < ord.length := by rw [hxe]; exact List.idxOf_lt_length_of_mem hm
      have hge : rd ord (x : Int) = b := by rw [rd_get hlt]; subst hxe; exact List.getElem_idxOf hlt
      rw [if_pos (by omega), if_pos (by omega), if_pos (by omega), if_pos (by omega), if_pos (by omega), rdOf_at hi, if_pos (by omega), hge, hb, if_pos rfl, if_neg (by omega), if_pos (by omega), letter_wrap (by omega), wrap_succ (by omega), hxe]
      exact hk
    · rw [if_neg hm] at hk
      have hlen : x = ord.length := by rw [hxe]; exact List.idxOf_eq_length hm
      rw [if_neg (by omega), if_pos (by omega), if_pos (by omega), if_pos (by omega), if_pos (by omega), rdOf_at hi, if_pos (by omega), if_pos (by omega), if_pos (by omega), letter_wrap (by omega), wrap_succ (by omega), hb, hxe]
      exact hk
  | succ d ih =>
    intro x hd hx
    have hlt : x < ord.length := by omega
    have hne : rd ord (x : Int) ≠ b := by
      rw [rd_get hlt]
      intro e
      have h1 := List.not_of_lt_findIdx (p := (· == b)) (xs := ord) (i := x) (show x < ord.findIdx (· == b) from (by have : ord.findIdx (· == b) = ord.idxOf b := rfl; omega))
      simp [e] at h1
    obtain ⟨k, hk⟩ := ih (x + 1) (by omega) (by omega)
    refine ⟨k + 1, ?_⟩
    unfold spec_l1Names.l2
    rw [if_pos (by omega), if_pos (by omega), if_pos (by omega), if_pos (by omega), if_pos (by omega), rdOf_at hi, if_pos (by omega), hb, if_neg hne, wrap_succ (by omega)]
    exact hk
theorem names_text (row : List Int) (h : ∀ k ∈ row, (0 : Int) ≤ k ∧ k ≤ 100) : strOfNums (row.map fun k => 97 + k) = rowText row := by
  unfold strOfNums rowText rowBytes
  congr 2
  rw [List.map_map]
  rfl
/-- The numbers of the first j cells of row i. -/
def numRow (wd : Nat) (f : Nat → Int) (i j : Nat) : List Int := (List.range j).map fun c => ((numAt wd f (i * wd + c) : Nat) : Int)
theorem names_row (p : List ByteArray) (wd : Nat) (f : Nat → Int) (i : Nat) (hi : i < p.length) (hip : p.length ≤ 6) (hwd : wd ≤ 6) (hsz : p[i].size = wd) (hf : ∀ c, c < wd → bt p[i] (c : Int) = f (i * wd + c)) (out : List ByteArray) (hol : out.length ≤ 100) (R : List ByteArray)
    (hR : ∃ k, spec_l1Names.l0 k p (scan wd f ((i + 1) * wd)).1 (out ++ [strOfNums ((numRow wd f i wd).map fun k => 97 + k)]) ((i + 1 : Nat) : Int) = some R) :
    ∀ d j, wd - j = d → j ≤ wd → ∃ k, spec_l1Names.l1 k p (scan wd f (i * wd + j)).1 out (i : Int) ((numRow wd f i j).map fun k => 97 + k) (j : Int) = some R := by
  intro d
  induction d with
  | zero =>
    intro j hd hj
    have hjw : j = wd := by omega
    subst hjw
    obtain ⟨k, hk⟩ := hR
    refine ⟨k + 1, ?_⟩
    unfold spec_l1Names.l1
    rw [if_pos (by omega), if_pos (by omega), rdOf_at hi, if_neg (by omega), if_pos (by omega), wrap_succ (by omega)]
    rw [Nat.succ_mul] at hk
    exact hk
  | succ d ih =>
    intro j hd hj
    obtain ⟨k, hk⟩ := ih (j + 1) (by omega) (by omega)
    have hbound : i * wd + j ≤ 100 := by
      have : i * wd ≤ 5 * 6 := Nat.mul_le_mul (by omega) hwd
      omega
    have hb := hf j (by omega)
    have hsc : (scan wd f (i * wd + (j + 1))).1 = if f (i * wd + j) ∈ (scan wd f (i * wd + j)).1 then (scan wd f (i * wd + j)).1 else (scan wd f (i * wd + j)).1 ++ [f (i * wd + j)] := scan_fst (i * wd + j)
    have hrow : (numRow wd f i (j + 1)).map (fun k => 97 + k) = (numRow wd f i j).map (fun k => 97 + k) ++ [97 + (((scan wd f (i * wd + j)).1.idxOf (f (i * wd + j)) : Nat) : Int)] := by
      unfold numRow
      rw [List.range_succ, List.map_append, List.map_append]
      rfl
    obtain ⟨k2, hk2⟩ := names_look p i j hi (by omega) (by omega) (scan wd f (i * wd + j)).1 ((numRow wd f i j).map fun k => 97 + k) out (Nat.le_trans (scan_len_le _ _ _) hbound) (by unfold numRow; rw [List.length_map, List.length_map, List.length_range]; omega) (f (i * wd + j)) hb R ⟨k, by rw [← hsc, ← hrow]; exact hk⟩ _ 0 rfl (Nat.zero_le _)
    refine ⟨k2 + 1, ?_⟩
    unfold spec_l1Names.l1
    rw [if_pos (by omega), if_pos (by omega), rdOf_at hi, if_pos (by omega)]
    exact hk2
theorem names_from (p : List ByteArray) (wd : Nat) (f : Nat → Int) (hip : p.length ≤ 6) (hwd : wd ≤ 6) (hsz : ∀ i (hi : i < p.length), p[i].size = wd) (hf : ∀ i c (hi : i < p.length), c < wd → bt p[i] (c : Int) = f (i * wd + c)) :
    ∀ d i, p.length - i = d → i ≤ p.length → ∃ k, spec_l1Names.l0 k p (scan wd f (i * wd)).1 ((List.range i).map fun r => strOfNums ((numRow wd f r wd).map fun k => 97 + k)) (i : Int) = some ((List.range p.length).map fun r => strOfNums ((numRow wd f r wd).map fun k => 97 + k)) := by
  intro d
  induction d with
  | zero =>
    intro i hd hi
    have : i = p.length := by omega
    subst this
    refine ⟨1, ?_⟩
    unfold spec_l1Names.l0
    rw [if_neg (by omega)]
  | succ d ih =>
    intro i hd hi
    have hil : i < p.length := by omega
    have hR := ih (i + 1) (by omega) (by omega)
    rw [List.range_succ, List.map_append] at hR
    obtain ⟨k, hk⟩ := names_row p wd f i hil hip hwd (hsz i hil) (fun c hc => hf i c hil hc) ((List.range i).map fun r => strOfNums ((numRow wd f r wd).map fun k => 97 + k)) (by rw [List.length_map, List.length_range]; omega) _ hR _ 0 rfl (Nat.zero_le _)
    refine ⟨k + 1, ?_⟩
    unfold spec_l1Names.l0
    rw [if_pos (by omega)]
    exact hk
/-- The reference's names of a grid are the texts of its numbers. -/
theorem names_f (p : List ByteArray) (h : (lettersB p && shapeB (rowsOf p)) = true) : ∃ k, spec_l1Names.f k p = some ((numsOf (rowsOf p)).map rowText) := by
  have hlen : (rowsOf p).length = p.length := by unfold rowsOf; rw [List.length_map]
  rw [Bool.and_eq_true] at h
  obtain ⟨_, hs⟩ := h
  have hg : ∀ r (hr : r < p.length), (rowsOf p)[r]? = some (bytesOf p[r]) := fun r hr => by unfold rowsOf; rw [List.getElem?_map, List.getElem?_eq_getElem hr]; rfl
  unfold shapeB at hs
  simp only [Bool.and_eq_true, decide_eq_true_eq, Bool.not_eq_true', List.any_eq_false, List.mem_range, hlen, ne_eq, Decidable.not_not] at hs
  obtain ⟨⟨⟨⟨h1, h2⟩, h3⟩, h4⟩, h5⟩ := hs
  have hsz : ∀ i (hi : i < p.length), p[i].size = ((rowsOf p).getD 0 []).length := fun i hi => by
    have := h5 i hi
    rw [List.getD_eq_getElem?_getD, hg i hi, Option.getD_some, bytesOf_length] at this
    omega
  have hf : ∀ i c (hi : i < p.length), c < ((rowsOf p).getD 0 []).length → bt p[i] (c : Int) = cellOf (rowsOf p) ((rowsOf p).getD 0 []).length (i * ((rowsOf p).getD 0 []).length + c) := fun i c hi hc => by
    have hcb : c < (bytesOf p[i]).length := by rw [bytesOf_length, hsz i hi]; exact hc
    rw [cellOf_at hc (hg i hi), bt_get hcb, List.getD_eq_getElem?_getD, List.getElem?_eq_getElem hcb]; rfl
  obtain ⟨k, hk⟩ := names_from p _ _ h2 h4 hsz hf _ 0 rfl (Nat.zero_le _)
  refine ⟨k, ?_⟩
  rw [Nat.zero_mul] at hk
  have hnum : (numsOf (rowsOf p)).map rowText = (List.range p.length).map fun r => strOfNums ((numRow ((rowsOf p).getD 0 []).length (cellOf (rowsOf p) ((rowsOf p).getD 0 []).length) r ((rowsOf p).getD 0 []).length).map fun k => 97 + k) := by
    unfold numsOf
    rw [hlen, List.map_map]
    apply List.map_congr_left
    intro r hr
    have hr := List.mem_range.1 hr
    show rowText _ = _
    rw [names_text]
    · rfl
    · intro k hk
      unfold numRow at hk
      obtain ⟨c, hc, rfl⟩ := List.mem_map.1 hk
      have hc := List.mem_range.1 hc
      refine ⟨Int.natCast_nonneg _, ?_⟩
      have h7 : numAt ((rowsOf p).getD 0 []).length (cellOf (rowsOf p) ((rowsOf p).getD 0 []).length) (r * ((rowsOf p).getD 0 []).length + c) ≤ r * ((rowsOf p).getD 0 []).length + c := by
        unfold numAt
        exact Nat.le_trans List.idxOf_le_length (scan_len_le _ _ _)
      have h8 : r * ((rowsOf p).getD 0 []).length ≤ 5 * 6 := Nat.mul_le_mul (by omega) h4
      omega
  rw [hnum]
  exact hk
end Go.Proofs.Ytiehiockjlhbcaa
