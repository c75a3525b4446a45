/- FnExactTermOf: the plain law. Conditions: none but a machine's sizes. -/
import Derived.Test.YtbpppchkgjcahaaKAGFnExactTermOfx
namespace Go.Proofs.Ytbpppchkgjcahaa.PureFnExactTermOf
open Go.RowKit Go.Proofs.Ytbpppchkgjcahaa Go.Proofs.Ytbpppchkgjcahaa.GFnExactTermOf Go.Proofs.YtbpppchkgjcahaaW.PrintWords Go.Proofs.YtbpppchkgjcahaaW.PrintLast
set_option linter.unusedSimpArgs false
theorem rd_list (l0 : List ByteArray) {i : Nat} (hi : i < l0.length) : rdOf ByteArray.empty l0 (i : Int) = l0[i] := by
  unfold rdOf
  rw [Int.toNat_natCast, List.getD_eq_getElem?_getD, List.getElem?_eq_getElem hi]; rfl
theorem sz_l (l0 : List ByteArray) (hl : (l0.length : Int) ≤ 1048576) (hs : ∀ s ∈ l0, s.size ≤ maxLen) : ∀ d i (left : Int), i + d = l0.length → 0 ≤ left → left ≤ 1048576 → (∀ s ∈ l0.take i, s.size ≤ 1048576) → ∃ t, Ev (fun k => laws_szStringS.l0 k l0 left (i : Int)) t ∧ (t < 0 ∨ ∀ s ∈ l0, s.size ≤ 1048576) := by
  intro d
  induction d with
  | zero =>
    intro i left hi h0 h1 ht
    refine ⟨left, Ev.now fun k => ?_, .inr ?_⟩
    · unfold laws_szStringS.l0
      rw [if_neg (by omega)]
    · rwa [List.take_of_length_le (by omega)] at ht
  | succ d ih =>
    intro i left hi h0 h1 ht
    have hil : i < l0.length := by omega
    have hsi := hs _ (List.getElem_mem hil)
    unfold maxLen at hsi
    have hw : wrap64 (left - ((l0[i].size : Nat) : Int)) = left - ((l0[i].size : Nat) : Int) := by unfold wrap64; omega
    have hw1 : wrap64 ((i : Int) + 1) = ((i + 1 : Nat) : Int) := by unfold wrap64; omega
    by_cases hn : left - ((l0[i].size : Nat) : Int) < 0
    · refine ⟨-1, Ev.now fun k => ?_, .inl (by omega)⟩
      unfold laws_szStringS.l0
      rw [if_pos (by omega), if_pos (by omega), rd_list l0 hil, hw, if_pos hn]
    · obtain ⟨t, e, h⟩ := ih (i + 1) (left - ((l0[i].size : Nat) : Int)) (by omega) (by omega) (by omega) (fun s hs => by
        rw [List.take_succ_eq_append_getElem hil] at hs
        rcases List.mem_append.1 hs with hs | hs
        · exact ht s hs
        · simp at hs; rw [hs]; omega)
      refine ⟨t, e.step fun k => ?_, h⟩
      show laws_szStringS.l0 (k + 1) l0 _ _ = _
      conv => lhs; unfold laws_szStringS.l0
      rw [if_pos (by omega), if_pos (by omega), rd_list l0 hil, hw, if_neg hn, hw1]
theorem sz_f (l0 : List ByteArray) (hl : l0.length ≤ maxLen) (hs : ∀ s ∈ l0, s.size ≤ maxLen) : ∃ t, Ev (fun k => laws_szStringS.f k l0 1048576) t ∧ (t < 0 ∨ SmallP l0) := by
  unfold maxLen at hl
  have hw : wrap64 (1048576 - (l0.length : Int)) = 1048576 - (l0.length : Int) := by unfold wrap64; omega
  by_cases hn : 1048576 - (l0.length : Int) < 0
  · refine ⟨-1, ⟨0, fun k _ => ?_⟩, .inl (by omega)⟩
    show laws_szStringS.f k l0 1048576 = _
    unfold laws_szStringS.f
    rw [hw, if_pos hn]
  · obtain ⟨t, e, h⟩ := sz_l l0 (by omega) hs l0.length 0 (1048576 - (l0.length : Int)) (by omega) (by omega) (by omega) (by simp)
    refine ⟨t, e.same fun k => ?_, h.imp id fun h => ⟨by omega, fun s hs => by have := h s hs; omega⟩⟩
    unfold laws_szStringS.f
    rw [hw, if_neg hn]; rfl
theorem to_l (l0 : List ByteArray) (hl : l0.length ≤ 2000000) : ∀ d i (x3 : List ByteArray), i + d = l0.length → x3.length = l0.length → x3.take i = l0.take i → Ev (fun k => laws_toStringS.l0 k l0 x3 (i : Int)) l0 := by
  intro d
  induction d with
  | zero =>
    intro i x3 hi h1 h2
    refine Ev.now fun k => ?_
    unfold laws_toStringS.l0
    rw [if_neg (by omega)]
    rw [List.take_of_length_le (by omega), List.take_of_length_le (by omega)] at h2
    rw [h2]
  | succ d ih =>
    intro i x3 hi h1 h2
    have hil : i < l0.length := by omega
    have hw1 : wrap64 ((i : Int) + 1) = ((i + 1 : Nat) : Int) := by unfold wrap64; omega
    refine (ih (i + 1) (x3.set i l0[i]) (by omega) (by rw [List.length_set]; exact h1) ?_).step fun k => ?_
    · rw [List.take_succ_eq_append_getElem hil, List.take_succ_eq_append_getElem (by rw [List.length_set]; omega), List.take_set_of_le (Nat.le_refl i), h2, List.getElem_set_self]
    · show laws_toStringS.l0 (k + 1) l0 _ _ = _
      conv => lhs; unfold laws_toStringS.l0
      rw [if_pos (by omega), if_pos (by omega), if_pos (by omega), rd_list l0 hil, hw1, Int.toNat_natCast]
theorem to_f (l0 : List ByteArray) (h : SmallP l0) : Ev (fun k => laws_toStringS.f k l0) l0 := by
  have hl := h.1
  refine (to_l l0 hl l0.length 0 (List.replicate l0.length (⟨#[]⟩ : ByteArray)) (by omega) (by rw [List.length_replicate]) rfl).same fun k => ?_
  unfold laws_toStringS.f
  rw [if_pos (by omega), if_pos (by omega), Int.toNat_natCast]; rfl
theorem eq_l (l0 : List ByteArray) (hl : l0.length ≤ 2000000) : ∀ d i, i + d = l0.length → Ev (fun k => laws_eqStringS.l0 k l0 l0 (i : Int)) true := by
  intro d
  induction d with
  | zero =>
    intro i hi
    refine Ev.now fun k => ?_
    unfold laws_eqStringS.l0
    rw [if_neg (by omega)]
  | succ d ih =>
    intro i hi
    have hw1 : wrap64 ((i : Int) + 1) = ((i + 1 : Nat) : Int) := by unfold wrap64; omega
    refine (ih (i + 1) (by omega)).step fun k => ?_
    show laws_eqStringS.l0 (k + 1) l0 _ _ = _
    conv => lhs; unfold laws_eqStringS.l0
    rw [if_pos (by omega), if_pos (by omega), if_pos (by omega), if_pos rfl, hw1]
theorem eq_f (l0 : List ByteArray) (h : SmallP l0) : Ev (fun k => laws_eqStringS.f k l0 l0) true := by
  refine (eq_l l0 h.1 l0.length 0 (by omega)).same fun k => ?_
  unfold laws_eqStringS.f
  rw [if_pos rfl]; rfl
theorem FnExactTermOf (l0 : List ByteArray) (hl : l0.length ≤ maxLen) (hs : ∀ s ∈ l0, s.size ≤ maxLen) : ∃ k, laws_FnExactTermOf.f k l0 = some true := by
  obtain ⟨t, e, ht⟩ := sz_f l0 hl hs
  refine Ev.ex (g := fun k => laws_FnExactTermOf.f k l0) ?_
  refine e.bind ?_
  by_cases hneg : t < 0
  · simp only [if_pos hneg]; exact Ev.const _
  · have hS : SmallP l0 := ht.resolve_left hneg
    simp only [if_neg hneg]
    refine (to_f l0 hS).bind ?_
    refine Ev.bind (a := termOfP l0) ⟨0, fun k _ => by unfold spec_TermOf.f; rw [if_pos hS]⟩ ?_
    refine (to_f l0 hS).bind ?_
    refine Ev.bind (a := termOfP l0) ⟨0, fun k _ => by unfold impl_TermOf.f; rw [if_pos hS]⟩ ?_
    simp only [if_true, bne_self_eq_false]
    refine Ev.step (g := fun k => (laws_toStringS.f k l0).bind fun t120 => ((laws_eqStringS.f k l0 t120).bind fun t123 => (if t123 = true then (some true) else (some false)))) ?_ fun k => ?_
    · exact (to_f l0 hS).bind ((eq_f l0 hS).bind (Ev.const _))
    · rfl
end Go.Proofs.Ytbpppchkgjcahaa.PureFnExactTermOf
