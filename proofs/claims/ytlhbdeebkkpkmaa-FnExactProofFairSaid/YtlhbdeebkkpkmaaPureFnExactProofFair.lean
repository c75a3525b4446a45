/- FnExactProofFair: the plain law. -/
import Derived.Test.YtlhbdeebkkpkmaaGFnExactProofFairx
namespace Go.Proofs.Ytlhbdeebkkpkmaa.Pure
open Go.RowKit Go.Proofs.Ytlhbdeebkkpkmaa Go.Proofs.Ytlhbdeebkkpkmaa.GFnExactProofFair Go.Proofs.YtlhbdeebkkpkmaaW.PrintWords Go.Proofs.YtlhbdeebkkpkmaaW.PrintLast

theorem toInt_l (x0 : List Int) (hx : x0.length ≤ 1000000000) : ∀ (m k : Nat) (x3 : List Int) (i : Nat), i + m = x0.length → x3.length = x0.length → x3.take i = x0.take i → m < k → laws_toIntS.l0 k x0 x3 (i : Int) = some x0 := by
  intro m
  induction m with
  | zero =>
    intro k x3 i hi hl ht hk
    obtain ⟨k, rfl⟩ : ∃ j, k = j + 1 := ⟨k - 1, by omega⟩
    have hx3 : x3 = x0 := by rw [← List.take_length (l := x3), hl, ← hi, Nat.add_zero, ht, ← (show x0.length = i by omega), List.take_length]
    unfold laws_toIntS.l0
    rw [if_neg (by omega), hx3]
  | succ m ih =>
    intro k x3 i hi hl ht hk
    obtain ⟨k, rfl⟩ : ∃ j, k = j + 1 := ⟨k - 1, by omega⟩
    unfold laws_toIntS.l0
    rw [if_pos (by omega), if_pos (by omega), if_pos (by omega), show wrap64 ((i : Int) + 1) = ((i + 1 : Nat) : Int) by unfold wrap64; omega]
    refine ih k _ (i + 1) (by omega) (by rw [List.length_set]; exact hl) ?_ (by omega)
    rw [Int.toNat_natCast, List.take_add_one, List.take_add_one, List.take_set_of_le (Nat.le_refl i), ht, List.getElem?_set_self (by omega)]
    congr 1
    unfold rd
    rw [Int.toNat_natCast, List.getD_eq_getElem?_getD, List.getElem?_eq_getElem (by omega)]
    rfl
theorem toInt_f (x0 : List Int) (hx : x0.length ≤ 1000000000) (k : Nat) (hk : x0.length < k) : laws_toIntS.f k x0 = some x0 := by
  unfold laws_toIntS.f
  rw [if_pos (by omega), if_pos (by omega)]
  exact toInt_l x0 hx x0.length k _ 0 (by omega) (by rw [List.length_replicate]; omega) rfl hk
theorem eqInt_l (x0 : List Int) (hx : x0.length ≤ 1000000000) : ∀ (m k i : Nat), i + m = x0.length → m < k → laws_eqIntS.l0 k x0 x0 (i : Int) = some true := by
  intro m
  induction m with
  | zero =>
    intro k i hi hk
    obtain ⟨k, rfl⟩ : ∃ j, k = j + 1 := ⟨k - 1, by omega⟩
    unfold laws_eqIntS.l0
    rw [if_neg (by omega)]
  | succ m ih =>
    intro k i hi hk
    obtain ⟨k, rfl⟩ : ∃ j, k = j + 1 := ⟨k - 1, by omega⟩
    unfold laws_eqIntS.l0
    rw [if_pos (by omega), if_pos (by omega), if_pos (by omega), if_pos rfl, show wrap64 ((i : Int) + 1) = ((i + 1 : Nat) : Int) by unfold wrap64; omega]
    exact ih k (i + 1) (by omega) (by omega)
theorem eqInt_f (x0 : List Int) (hx : x0.length ≤ 1000000000) (k : Nat) (hk : x0.length < k) : laws_eqIntS.f k x0 x0 = some true := by
  unfold laws_eqIntS.f
  rw [if_pos rfl]
  exact eqInt_l x0 hx x0.length k 0 (by omega) hk

/-- The printed plain statement. -/
theorem FnExactProofFair : laws_FnExactProofFair.Pure := by
  intro l0 _ _ _
  refine ⟨l0.length + 2, ?_⟩
  unfold laws_FnExactProofFair.f
  by_cases h1 : (l0.length : Int) > 1048576
  · rw [if_pos h1]
  have e := toInt_f l0 (by omega) (l0.length + 2) (by omega)
  have e2 : spec_ProofFair.f l0 = some (fairP l0) := by unfold spec_ProofFair.f; rw [if_pos (by omega)]
  have e3 : impl_ProofFair.f l0 = some (fairP l0) := by unfold impl_ProofFair.f; rw [if_pos (by omega)]
  have e4 : laws_FnExactProofFair.j0 (l0.length + 2) l0 l0 false = some true := by
    show (if false = true then some false else ((laws_toIntS.f (l0.length + 1) l0).bind fun t118 => ((laws_eqIntS.f (l0.length + 1) l0 t118).bind fun t121 => (if t121 = true then (some true) else (some false))))) = some true
    rw [if_neg (by simp), toInt_f l0 (by omega) (l0.length + 1) (by omega), Option.bind_some, eqInt_f l0 (by omega) (l0.length + 1) (by omega), Option.bind_some, if_pos rfl]
  simp [h1, e, e2, e3, e4]
end Go.Proofs.Ytlhbdeebkkpkmaa.Pure
