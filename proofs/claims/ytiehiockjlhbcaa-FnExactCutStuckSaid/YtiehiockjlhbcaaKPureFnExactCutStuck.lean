/- FnExactCutStuck: the plain law. Conditions: none but a machine's sizes. -/
import Derived.Test.YtiehiockjlhbcaaKGFnExactCutStuckx
namespace Go.Proofs.Ytiehiockjlhbcaa.PureFnExactCutStuck
open Go.RowKit Go.Proofs.Ytiehiockjlhbcaa Go.Proofs.Ytiehiockjlhbcaa.GFnExactCutStuck Go.Proofs.YtiehiockjlhbcaaW.PrintWords Go.Proofs.YtiehiockjlhbcaaW.PrintLast
set_option linter.unusedSimpArgs false

theorem rd_list (l0 : List ByteArray) {i : Nat} (hi : i < l0.length) : rdOf ByteArray.empty l0 (i : Int) = l0[i] := by
  unfold rdOf
  rw [Int.toNat_natCast, List.getD_eq_getElem?_getD, List.getElem?_eq_getElem hi]; rfl
theorem sz_l (l0 : List ByteArray) (hl : (l0.length : Int) ≤ 1048576) (hs : ∀ s ∈ l0, s.size ≤ maxLen) : ∀ d i (left : Int), i + d = l0.length → 0 ≤ left → left ≤ 1048576 → (∀ s ∈ l0.take i, s.size ≤ 1048576) → ∃ t, Ev (fun k => laws_szStringS.l0 k l0 left (i : Int)) t ∧ (t < 0 ∨ ∀ s ∈ l0, s.size ≤ 1048576) := by
  intro d
  induction d with
  | zero =>
    intro i left hi h0 h1 ht
    refine ⟨left, Ev.now fun k => ?_, .inr ?_⟩
    · unfold laws_szStringS.l0
      rw [if_neg (by omega)]
    · rwa [List.take_of_length_le (by omega)] at ht
  | succ d ih =>
    intro i left hi h0 h1 ht
    have hil : i < l0.length := by omega
    have hsi := hs _ (List.getElem_mem hil)
    unfold maxLen at hsi
    have hw : wrap64 (left - ((l0[i].size : Nat) : Int)) = left - ((l0[i].size : Nat) : Int) := by unfold wrap64; omega
    have hw1 : wrap64 ((i : Int) + 1) = ((i + 1 : Nat) : Int) := by unfold wrap64; omega
    by_cases hn : left - ((l0[i].size : Nat) : Int) < 0
    · refine ⟨-1, Ev.now fun k => ?_, .inl (by omega)⟩
      unfold laws_szStringS.l0
      rw [if_pos (by omega), if_pos (by omega), rd_list l0 hil, hw, if_pos hn]
    · obtain ⟨t, e, h⟩ := ih (i + 1) (left - ((l0[i].size : Nat) : Int)) (by omega) (by omega) (by omega) (fun s hs => by
        rw [List.take_succ_eq_append_getElem hil] at hs
        rcases List.mem_append.1 hs with hs | hs
        · exact ht s hs
        · simp at hs; rw [hs]; omega)
      refine ⟨t, e.step fun k => ?_, h⟩
      show laws_szStringS.l0 (k + 1) l0 _ _ = _
      conv => lhs; unfold laws_szStringS.l0
      rw [if_pos (by omega), if_pos (by omega), rd_list l0 hil, hw, if_neg hn, hw1]
theorem sz_f (l0 : List ByteArray) (hl : l0.length ≤ maxLen) (hs : ∀ s ∈ l0, s.size ≤ maxLen) : ∃ t, Ev (fun k => laws_szStringS.f k l0 1048576) t ∧ (t < 0 ∨ SmallP l0) := by
  unfold maxLen at hl
  have hw : wrap64 (1048576 - (l0.length : Int)) = 1048576 - (l0.length : Int) := by unfold wrap64; omega
  by_cases hn : 1048576 - (l0.length : Int) < 0
  · refine ⟨-1, ⟨0, fun k _ => ?_⟩, .inl (by omega)⟩
    show laws_szStringS.f k l0 1048576 = _
    unfold laws_szStringS.f
    rw [hw, if_pos hn]
  · obtain ⟨t, e, h⟩ := sz_l l0 (by omega) hs l0.length 0 (1048576 - (l0.length : Int)) (by omega) (by omega) (by omega) (by simp)
    refine ⟨t, e.same fun k => ?_, h.imp id fun h => ⟨by omega, fun s hs => by have := h s hs; omega⟩⟩
    unfold laws_szStringS.f
    rw [hw, if_neg hn]; rfl
theorem to_l (l0 : List ByteArray) (hl : l0.length ≤ 2000000) : ∀ d i (x3 : List ByteArray), i + d = l0.length → x3.length = l0.length → x3.take i = l0.take i → Ev (fun k => laws_toStringS.l0 k l0 x3 (i : Int)) l0 := by
  intro d
  induction d with
  | zero =>
    intro i x3 hi h1 h2
    refine Ev.now fun k => ?_
    unfold laws_toStringS.l0
    rw [if_neg (by omega)]
    rw [List.take_of_length_le (by omega), List.take_of_length_le (by omega)] at h2
    rw [h2]
  | succ d ih =>
    intro i x3 hi h1 h2
    have hil : i < l0.length := by omega
    have hw1 : wrap64 ((i : Int) + 1) = ((i + 1 : Nat) : Int) := by unfold wrap64; omega
    refine (ih (i + 1) (x3.set i l0[i]) (by omega) (by rw [List.length_set]; exact h1) ?_).step fun k => ?_
    · rw [List.take_succ_eq_append_getElem hil, List.take_succ_eq_append_getElem (by rw [List.length_set]; omega), List.take_set_of_le (Nat.le_refl i), h2, List.getElem_set_self]
    · show laws_toStringS.l0 (k + 1) l0 _ _ = _
      conv => lhs; unfold laws_toStringS.l0
      rw [if_pos (by omega), if_pos (by omega), if_pos (by omega), rd_list l0 hil, hw1, Int.toNat_natCast]
theorem to_f (l0 : List ByteArray) (h : SmallP l0) : Ev (fun k => laws_toStringS.f k l0) l0 := by
  have hl := h.1
  refine (to_l l0 hl l0.length 0 (List.replicate l0.length (⟨#[]⟩ : ByteArray)) (by omega) (by rw [List.length_replicate]) rfl).same fun k => ?_
  unfold laws_toStringS.f
  rw [if_pos (by omega), if_pos (by omega), Int.toNat_natCast]; rfl
theorem eq_l (l0 : List ByteArray) (hl : l0.length ≤ 2000000) : ∀ d i, i + d = l0.length → Ev (fun k => laws_eqStringS.l0 k l0 l0 (i : Int)) true := by
  intro d
  induction d with
  | zero =>
    intro i hi
    refine Ev.now fun k => ?_
    unfold laws_eqStringS.l0
    rw [if_neg (by omega)]
  | succ d ih =>
    intro i hi
    have hw1 : wrap64 ((i : Int) + 1) = ((i + 1 : Nat) : Int) := by unfold wrap64; omega
    refine (ih (i + 1) (by omega)).step fun k => ?_
    show laws_eqStringS.l0 (k + 1) l0 _ _ = _
    conv => lhs; unfold laws_eqStringS.l0
    rw [if_pos (by omega), if_pos (by omega), if_pos (by omega), if_pos rfl, hw1]
theorem eq_f (l0 : List ByteArray) (h : SmallP l0) : Ev (fun k => laws_eqStringS.f k l0 l0) true := by
  refine (eq_l l0 h.1 l0.length 0 (by omega)).same fun k => ?_
  unfold laws_eqStringS.f
  rw [if_pos rfl]; rfl
theorem eqi_l (l : List Int) (hl : l.length ≤ 1000) : ∀ d i, i + d = l.length → Ev (fun k => laws_eqIntS.l0 k l l (i : Int)) true := by
  intro d
  induction d with
  | zero =>
    intro i hi
    refine Ev.now fun k => ?_
    unfold laws_eqIntS.l0
    rw [if_neg (by omega)]
  | succ d ih =>
    intro i hi
    have hw1 : wrap64 ((i : Int) + 1) = ((i + 1 : Nat) : Int) := by unfold wrap64; omega
    refine (ih (i + 1) (by omega)).step fun k => ?_
    show laws_eqIntS.l0 (k + 1) l l _ = _
    conv => lhs; unfold laws_eqIntS.l0
    rw [if_pos (by omega), if_pos (by omega), if_pos (by omega), if_pos rfl, hw1]
theorem eqi_f (l : List Int) (hl : l.length ≤ 1000) : Ev (fun k => laws_eqIntS.f k l l) true := by
  refine (eqi_l l hl l.length 0 (by omega)).same fun k => ?_
  unfold laws_eqIntS.f
  rw [if_pos rfl]; rfl
theorem wrap_of {x : Int} (h : 0 ≤ x ∧ x ≤ 9000000) : wrap64 x = x := by unfold wrap64; omega
theorem text_l : ∀ (m : Nat) (n : Nat), n ≤ m → n ≤ 9000000 → ∀ x3 : ByteArray, x3.size + m ≤ 100000000 → ∃ t, Ev (fun k => laws_markText.l0 k (n : Int) x3) t := by
  intro m
  induction m with
  | zero =>
    intro n hn _ x3 hx
    refine ⟨(⟨#[109]⟩ : ByteArray) ++ x3, Ev.now fun k => ?_⟩
    unfold laws_markText.l0
    rw [if_neg (by omega), if_pos (by omega)]
  | succ m ih =>
    intro n hn hb x3 hx
    by_cases h0 : (n : Int) > 0
    · have hd : Int.tdiv (n : Int) 10 = ((n / 10 : Nat) : Int) := by rw [Int.tdiv_eq_ediv_of_nonneg (by omega)]; omega
      have hsz : ∀ y : Int, (strOfNums [y]).size = 1 := fun y => rfl
      obtain ⟨t, e⟩ := ih (n / 10) (by omega) (by omega) (strOfNums [(wrap64 (48 + Int.tmod (n : Int) 10)) % 256] ++ x3) (by rw [ByteArray.size_append, hsz]; omega)
      refine ⟨t, e.step fun k => ?_⟩
      show laws_markText.l0 (k + 1) _ _ = _
      conv => lhs; unfold laws_markText.l0
      rw [if_pos h0, hd, show wrap64 ((n / 10 : Nat) : Int) = ((n / 10 : Nat) : Int) from wrap_of (by omega), Option.bind_some, if_pos (by rw [hsz]; omega)]
    · refine ⟨(⟨#[109]⟩ : ByteArray) ++ x3, Ev.now fun k => ?_⟩
      unfold laws_markText.l0
      rw [if_neg h0, if_pos (by omega)]
theorem text_f (n : Nat) (hn : n ≤ 9000000) : ∃ t, Ev (fun k => laws_markText.f k (n : Int)) t := by
  by_cases h0 : (n : Int) ≤ 0
  · exact ⟨⟨#[109, 48]⟩, 0, fun k _ => by show laws_markText.f k _ = _; unfold laws_markText.f; rw [if_pos h0]⟩
  · obtain ⟨t, e⟩ := text_l n n (Nat.le_refl _) hn ⟨#[]⟩ (by show 0 + n ≤ _; omega)
    refine ⟨t, e.same fun k => ?_⟩
    unfold laws_markText.f
    rw [if_neg h0]
theorem mark_l : ∀ d i (x : List ByteArray), i + d = x.length → x.length ≤ 2000000 → ∃ q, Ev (fun k => laws_markStringS.l0 k x ((i + 1 : Nat) : Int) (i : Int)) (((x.length + 1 : Nat) : Int), q) := by
  intro d
  induction d with
  | zero =>
    intro i x hi hx
    refine ⟨x, Ev.now fun k => ?_⟩
    unfold laws_markStringS.l0
    rw [if_neg (by omega), show i = x.length by omega]
  | succ d ih =>
    intro i x hi hx
    obtain ⟨t, et⟩ := text_f (i + 1) (by omega)
    obtain ⟨q, eq⟩ := ih (i + 1) (x.set i t) (by rw [List.length_set]; omega) (by rw [List.length_set]; exact hx)
    rw [List.length_set] at eq
    refine ⟨q, (et.bind (F := fun k t => laws_markStringS.l0 k (x.set i t) ((i + 1 + 1 : Nat) : Int) ((i + 1 : Nat) : Int)) eq).step fun k => ?_⟩
    show laws_markStringS.l0 (k + 1) _ _ _ = _
    conv => lhs; unfold laws_markStringS.l0
    rw [if_pos (by omega)]
    simp only [if_pos (show 0 ≤ (i : Int) by omega), Int.toNat_natCast]
    rw [show wrap64 (((i + 1 : Nat) : Int) + 1) = ((i + 1 + 1 : Nat) : Int) by rw [wrap_of (by omega)]; push_cast; rfl, show wrap64 ((i : Int) + 1) = ((i + 1 : Nat) : Int) by rw [wrap_of (by omega)]; push_cast; rfl]
theorem mark_f (l0 : List ByteArray) (h : SmallP l0) : ∃ q, Ev (fun k => laws_markStringS.f k l0 1) (((l0.length + 1 : Nat) : Int), q) := mark_l l0.length 0 l0 (by omega) h.1
/-- The numbers are i + 1 from place i on. -/
def Marked (x : List Int) (i : Nat) : Prop := ∀ j, j < i → j < x.length → rd x (j : Int) = ((j + 1 : Nat) : Int)
theorem rd_at {x : List Int} {j : Nat} (h : j < x.length) : rd x (j : Int) = x[j] := by
  unfold rd
  rw [Int.toNat_natCast, List.getD_eq_getElem?_getD, List.getElem?_eq_getElem h]; rfl
theorem marki_l : ∀ d i (x : List Int), i + d = x.length → x.length ≤ 1000 → Marked x i → ∃ q, Ev (fun k => laws_markIntS.l0 k x ((i + 1 : Nat) : Int) (i : Int)) (((x.length + 1 : Nat) : Int), q) ∧ q.length = x.length ∧ Marked q x.length := by
  intro d
  induction d with
  | zero =>
    intro i x hi hx hm
    refine ⟨x, Ev.now fun k => ?_, rfl, fun j hj h2 => hm j (by omega) h2⟩
    unfold laws_markIntS.l0
    rw [if_neg (by omega), show i = x.length by omega]
  | succ d ih =>
    intro i x hi hx hm
    obtain ⟨q, eq, hq, hmq⟩ := ih (i + 1) (x.set i ((i + 1 : Nat) : Int)) (by rw [List.length_set]; omega) (by rw [List.length_set]; exact hx) (by
      intro j hj h2
      rw [rd_at h2]
      by_cases e : j = i
      · subst e; rw [List.getElem_set_self]
      · rw [List.getElem_set_ne (by omega)]
        rw [List.length_set] at h2
        rw [← rd_at h2]
        exact hm j (by omega) h2)
    rw [List.length_set] at eq hq hmq
    refine ⟨q, eq.step fun k => ?_, hq, hmq⟩
    show laws_markIntS.l0 (k + 1) _ _ _ = _
    conv => lhs; unfold laws_markIntS.l0
    rw [if_pos (by omega), if_pos (by omega), Int.toNat_natCast]
    rw [show wrap64 (((i + 1 : Nat) : Int) + 1) = ((i + 1 + 1 : Nat) : Int) by rw [wrap_of (by omega)]; push_cast; rfl, show wrap64 ((i : Int) + 1) = ((i + 1 : Nat) : Int) by rw [wrap_of (by omega)]; push_cast; rfl]
theorem marki_f (l : List Int) (h : l.length ≤ 1000) : ∃ q, Ev (fun k => laws_markIntS.f k l 1) (((l.length + 1 : Nat) : Int), q) ∧ q.length = l.length ∧ Marked q l.length := marki_l l.length 0 l (by omega) h (fun j hj => by omega)
theorem held_l (q : List Int) (hq : q.length ≤ 1000) (hm : Marked q q.length) : ∀ d i, i + d = q.length → Ev (fun k => laws_heldIntS.l0 k q ((i + 1 : Nat) : Int) (i : Int)) ((q.length + 1 : Nat) : Int) := by
  intro d
  induction d with
  | zero =>
    intro i hi
    refine Ev.now fun k => ?_
    unfold laws_heldIntS.l0
    rw [if_neg (by omega), show i = q.length by omega]
  | succ d ih =>
    intro i hi
    refine (ih (i + 1) (by omega)).step fun k => ?_
    show laws_heldIntS.l0 (k + 1) _ _ _ = _
    conv => lhs; unfold laws_heldIntS.l0
    rw [if_pos (by omega), if_pos (by omega), if_pos (hm i (by omega) (by omega))]
    rw [show wrap64 (((i + 1 : Nat) : Int) + 1) = ((i + 1 + 1 : Nat) : Int) by rw [wrap_of (by omega)]; push_cast; rfl, show wrap64 ((i : Int) + 1) = ((i + 1 : Nat) : Int) by rw [wrap_of (by omega)]; push_cast; rfl]
theorem held_f (q : List Int) (hq : q.length ≤ 1000) (hm : Marked q q.length) : Ev (fun k => laws_heldIntS.f k q 1) ((q.length + 1 : Nat) : Int) := held_l q hq hm q.length 0 (by omega)
/-- The printed law is true. -/
theorem FnExactCutStuck (l0 : List ByteArray) (hl : l0.length ≤ maxLen) (hs : ∀ s ∈ l0, s.size ≤ maxLen) : ∃ k, laws_FnExactCutStuck.f k l0 = some true := by
  obtain ⟨t, e, ht⟩ := sz_f l0 hl hs
  refine Ev.ex (g := fun k => laws_FnExactCutStuck.f k l0) ?_
  refine e.bind ?_
  by_cases hneg : t < 0
  · simp only [if_pos hneg]; exact Ev.const _
  · have hS : SmallP l0 := ht.resolve_left hneg
    simp only [if_neg hneg]
    refine (to_f l0 hS).bind ?_
    have hV : (cutStuckV l0).1.length ≤ 1000 := cutStuckV_len l0
    obtain ⟨⟨V, b⟩, hVb⟩ : ∃ v, cutStuckV l0 = v := ⟨_, rfl⟩
    rw [hVb] at hV
    have hsp : Ev (fun _ : Nat => spec_CutStuck.f l0) (V, b) := ⟨0, fun k _ => by unfold spec_CutStuck.f; rw [if_pos hS, hVb]⟩
    have him : Ev (fun _ : Nat => impl_CutStuck.f l0) (V, b) := ⟨0, fun k _ => by unfold impl_CutStuck.f; rw [if_pos hS, hVb]⟩
    obtain ⟨q, eq, hql, hqm⟩ := marki_f V hV
    have hheld := held_f q (by rw [hql]; exact hV) (by rw [hql]; exact hqm)
    rw [hql] at hheld
    obtain ⟨qs, eqs⟩ := mark_f l0 hS
    have hn1 : ¬ ((l0.length + 1 : Nat) : Int) < 0 := by omega
    have hn2 : ¬ ((V.length + 1 : Nat) : Int) < 0 := by omega
    have e2 : Ev (fun k => laws_FnExactCutStuck.j2 k q ((V.length + 1 : Nat) : Int) false) true := by
      refine (hheld.bind (F := fun k t152 => (if t152 < 0 then (some false) else (if t152 = ((V.length + 1 : Nat) : Int) then (some true) else (some false)))) ?_).step fun k => ?_
      · simp only [if_neg hn2, if_true]; exact Ev.const _
      · rfl
    have e1 : Ev (fun k => laws_FnExactCutStuck.j1 k l0 V b V false) true := by
      refine (eq.bind (F := fun k bt141 => ((laws_heldIntS.f k bt141.2 1).bind fun t143 => (if t143 < 0 then (some false) else (if t143 = bt141.1 then ((laws_toStringS.f k l0).bind fun t144 => ((impl_CutStuck.f t144).bind fun bt147 => ((laws_eqIntS.f k bt147.1 V).bind fun t151 => (if t151 = true then (laws_FnExactCutStuck.j2 k bt141.2 bt141.1 (bt147.2 != b)) else (laws_FnExactCutStuck.j2 k bt141.2 bt141.1 true))))) else (some false))))) ?_).step fun k => ?_
      · refine hheld.bind ?_
        simp only [if_neg hn2, if_true]
        refine (to_f l0 hS).bind (him.bind ((eqi_f V hV).bind ?_))
        simp only [if_true, bne_self_eq_false]
        exact e2
      · rfl
    have e0 : Ev (fun k => laws_FnExactCutStuck.j0 k l0 V b l0 V b false) true := by
      refine ((to_f l0 hS).bind (F := fun k t134 => ((laws_eqStringS.f k l0 t134).bind fun t137 => (if t137 = true then ((laws_markStringS.f k l0 1).bind fun bt138 => (if bt138.1 < 0 then (laws_FnExactCutStuck.j1 k l0 V b V true) else ((laws_eqIntS.f k V V).bind fun t140 => (if t140 = true then (laws_FnExactCutStuck.j1 k l0 V b V (b != b)) else (laws_FnExactCutStuck.j1 k l0 V b V true))))) else (some false)))) ?_).step fun k => ?_
      · refine (eq_f l0 hS).bind ?_
        simp only [if_true]
        refine eqs.bind ?_
        simp only [if_neg hn1]
        refine (eqi_f V hV).bind ?_
        simp only [if_true, bne_self_eq_false]
        exact e1
      · rfl
    refine hsp.bind ((to_f l0 hS).bind (him.bind ((eqi_f V hV).bind ?_)))
    simp only [if_true, bne_self_eq_false]
    exact e0
end Go.Proofs.Ytiehiockjlhbcaa.PureFnExactCutStuck
