/- The map from letters to numbers that 'settled' makes: what it holds, in plain words. -/
import Derived.Test.YtiehiockjlhbcaaKBoth
import Derived.Maps.OwnSet
import Derived.Maps.Views
namespace Go.Proofs.Ytiehiockjlhbcaa
open Go.RowKit Go.Shelf Go.Maps
set_option linter.unusedVariables false

theorem mlaw : Keyed Try.prog 3 := int_keyed Try.underlying3
theorem mzero (w : World) : (zeroValue 3).run Try.prog w = .ok (.int .i64 0) w := by kernel_rfl
theorem mkey {x : Int} (hx : 0 ≤ x ∧ x ≤ 1000) : keyOf Try.prog 3 (.int .i64 x) = some (.int .i64 x) := keyOf_int_mk Try.underlying3 (by
  show (decide (IntKind.i64.min ≤ x) && decide (x ≤ IntKind.i64.max)) = true
  rw [Bool.and_eq_true, decide_eq_true_eq, decide_eq_true_eq]
  show -9223372036854775808 ≤ x ∧ x ≤ 9223372036854775807
  omega)
theorem mwf {x : Int} (hx : 0 ≤ x ∧ x ≤ 1000) : (Lit.int .i64 x).wf = true := by
  show (decide (IntKind.i64.min ≤ x) && decide (x ≤ IntKind.i64.max)) = true
  rw [Bool.and_eq_true, decide_eq_true_eq, decide_eq_true_eq]
  show -9223372036854775808 ≤ x ∧ x ≤ 9223372036854775807
  omega
/-- Block mb is a map from letters to their places in ord. -/
def MapOf (W : World) (mb : Nat) (ord : List Int) : Prop := ∃ D : DataW Unit, W.ownsMap Try.prog 3 (plainElem Try.prog 3) mb ord.length D ∧ Tidy D ∧ size D = ord.length ∧
  (∀ x : Int, x ∈ ord → has D (.int .i64 x) = true ∧ ∀ z, D.atKey (.int .i64 x) z = .lit (.int .i64 (ord.idxOf x : Nat))) ∧ ∀ x : Int, x ∉ ord → has D (.int .i64 x) = false
theorem MapOf.made (W : World) : MapOf (W.alloc (.map #[] 0)) W.heap.size [] :=
  ⟨.map [], World.ownsMap_made W _ _ _, ⟨[], rfl, List.Pairwise.nil⟩, rfl, fun x hx => (by simp at hx), fun x hx => rfl⟩
theorem MapOf.move {W W' : World} {mb : Nat} {ord : List Int} (h : MapOf W mb ord) (hm : W'.heap[mb]? = W.heap[mb]?) : MapOf W' mb ord := by
  obtain ⟨D, ⟨es, clock, hb, r⟩, r2⟩ := h
  exact ⟨D, ⟨es, clock, hm.trans hb, r⟩, r2⟩
theorem MapOf.lt {W : World} {mb : Nat} {ord : List Int} (h : MapOf W mb ord) : mb < W.heap.size := by
  obtain ⟨D, h1, _⟩ := h
  exact h1.lt
theorem MapOf.obj {W : World} {mb : Nat} {ord : List Int} (h : MapOf W mb ord) : ∃ es clock, W.heap[mb]? = some (.map es clock) := by
  obtain ⟨D, ⟨es, clock, hb, r⟩, r2⟩ := h
  exact ⟨es, clock, hb⟩
theorem MapOf.look {W : World} {mb : Nat} {ord : List Int} (h : MapOf W mb ord) {x : Int} (hx : 0 ≤ x ∧ x ≤ 1000) :
    (Instr.lookup 135 (.map (some mb)) (.int .i64 x) true).run Try.prog W = .ok (.tuple #[.int .i64 (if x ∈ ord then (ord.idxOf x : Nat) else 0), .bool (decide (x ∈ ord))]) W := by
  obtain ⟨D, h1, h2, h3, h4, h5⟩ := h
  obtain ⟨v, ps, hrun, hv⟩ := h1.look_ok (zd := (DataW.lit (.int .i64 0) : DataW Unit)) (zp := []) mlaw Try.underlying135 (mzero W) (plainElem_int Try.underlying3 (by decide)) (mkey hx)
  by_cases hm : x ∈ ord
  · rw [(h4 x hm).2] at hv
    obtain ⟨c, rfl, hc, hwc⟩ := plainElem_int_inv Try.underlying3 hv
    have : ((ord.idxOf x : Nat) : Int) = c := by
      have := congrArg Prod.fst hc
      simp at this
      exact this
    rw [hrun, (h4 x hm).1, if_pos hm, this, decide_eq_true hm]
  · rw [atKey_of_not_has (h5 x hm)] at hv
    obtain ⟨c, rfl, hc, hwc⟩ := plainElem_int_inv Try.underlying3 hv
    have : (0 : Int) = c := by
      have := congrArg Prod.fst hc
      simp at this
      exact this
    rw [hrun, h5 x hm, if_neg hm, ← this, decide_eq_false hm]
theorem MapOf.len {W : World} {mb : Nat} {ord : List Int} (h : MapOf W mb ord) (ty : TypeId) : (Builtin.len_ #[135] ty #[.map (some mb)]).run Try.prog W = .ok (.int .i64 (ord.length : Nat)) W := by
  obtain ⟨D, h1, h2, h3, _⟩ := h
  rw [h1.len Try.underlying135 ty, h3]
section
variable {ops : Array Oper} {rest : List Oper} {o : Oper} {a : Act} {Q : Exit → Act → World → Prop}
theorem MapOf.put (w : World) (hg : o.guard = none) (m x v : Operand) (hop : o.op = Op.mapUpdate 135 m x v) (mb : Nat) (ord : List Int) (h : MapOf w mb ord) (hl : ord.length ≤ 1000)
    (y : Int) (hy : 0 ≤ y ∧ y ≤ 1000) (hn : y ∉ ord) (hm : a.eval m = .map (some mb)) (hx : a.eval x = .int .i64 y) (hv : a.eval v = .int .i64 (ord.length : Nat))
    (hK : ∀ w', MapOf w' mb (ord ++ [y]) → w.grownBy w' (some mb) → wpList Try.prog ops Q rest (a.put o.dst undef) w') :
    wpList Try.prog ops Q (o :: rest) a w := by
  obtain ⟨D, h1, h2, h3, h4, h5⟩ := h
  have hkl : WideAt.IsKeyLit (.int .i64 y) := mlaw.key (mkey hy)
  refine wpList_mapUpdate_own w hg m x v 135 hop 3 3 mlaw Try.underlying135 _ mb ord.length D hm h1 (by unfold maxLen; omega) _ _ _ hx hv (mkey hy) (.lit (.int .i64 (ord.length : Nat))) [] (plainElem_int Try.underlying3 (mwf ⟨by omega, by omega⟩)) ?_
  intro w' hown hgr
  refine hK w' ⟨D.put (.int .i64 y) (.lit (.int .i64 (ord.length : Nat))), ?_, h2.put hkl _, ?_, ?_, ?_⟩ hgr
  · rw [List.length_append]; exact hown
  · rw [size_put h2, h5 y hn, List.length_append, h3]; rfl
  · intro z hz
    by_cases e : z = y
    · subst e
      refine ⟨has_put_same (h2.isMap) hkl _, fun z0 => ?_⟩
      rw [atKey_put_same (h2.isMap) hkl, List.idxOf_append, if_neg hn]
      simp
    · have hz' : z ∈ ord := by
        rcases List.mem_append.1 hz with hz | hz
        · exact hz
        · simp at hz; exact absurd hz e
      have hne : (Lit.int .i64 z : Lit) ≠ .int .i64 y := fun h => e (by injection h)
      refine ⟨by rw [has_put_other hne]; exact (h4 z hz').1, fun z0 => ?_⟩
      rw [atKey_put_other hne, (h4 z hz').2, List.idxOf_append, if_pos hz']
  · intro z hz
    simp at hz
    have hne : (Lit.int .i64 z : Lit) ≠ .int .i64 y := fun h => hz.2 (by injection h)
    rw [has_put_other hne]
    exact h5 z hz.1
end
end Go.Proofs.Ytiehiockjlhbcaa
