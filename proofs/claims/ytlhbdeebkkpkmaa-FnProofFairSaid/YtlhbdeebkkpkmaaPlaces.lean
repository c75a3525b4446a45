/- The program's placesOf and PermIn, and the reference's PermIn: what the printed functions come to, in plain Lean. -/
import Derived.Test.YtlhbdeebkkpkmaaRead
import Derived.Test.YtlhbdeebkkpkmaaL1x
namespace Go.Proofs.Ytlhbdeebkkpkmaa
open Go.RowKit Go.Proofs.YtlhbdeebkkpkmaaW.PrintWords Go.Proofs.Ytlhbdeebkkpkmaa.L1
set_option linter.unusedVariables false

theorem wrap_small {x : Int} (h0 : -9223372036854775808 ≤ x) (h : x ≤ 9223372036854775807) : wrap64 x = x := by unfold wrap64; omega

theorem digB_iff (s : ByteArray) (o i : Nat) : digB s o i = true ↔ bt s ((o : Int) + 2 * i) = 32 ∧ 48 ≤ bt s ((o : Int) + 2 * i + 1) ∧ bt s ((o : Int) + 2 * i + 1) ≤ 57 := by
  unfold digB; simp only [Bool.and_eq_true, beq_iff_eq, decide_eq_true_eq]
theorem digB_f {s : ByteArray} {o i : Nat} (h : ¬ (bt s ((o : Int) + 2 * i) = 32 ∧ 48 ≤ bt s ((o : Int) + 2 * i + 1) ∧ bt s ((o : Int) + 2 * i + 1) ≤ 57)) : digB s o i = false := by
  rw [← Bool.not_eq_true, digB_iff]; exact h

theorem places_loop (r : ByteArray) (m : Nat) (hr : r.size = 2 * m) (hm : m ≤ 100) : ∀ (d k i : Nat) (l : List Int), i + d = m → d < k → l.length = i →
    impl_placesOf.l0 k r l ((2 * i : Nat) : Int) = some (if (List.range' i d).all (digB r 0) then (l ++ (List.range' i d).map fun (j : Nat) => bt r (((0 : Nat) : Int) + 2 * j + 1) - 48, true) else ([], false)) := by
  intro d
  induction d with
  | zero =>
    intro k i l hi hk hl
    obtain ⟨k, rfl⟩ : ∃ q, k = q + 1 := ⟨k - 1, by omega⟩
    simp only [impl_placesOf.l0]
    rw [if_neg (by omega)]
    simp
  | succ d ih =>
    intro k i l hi hk hl
    obtain ⟨k, rfl⟩ : ∃ q, k = q + 1 := ⟨k - 1, by omega⟩
    have w1 : wrap64 (((2 * i : Nat) : Int) + 1) = ((0 : Nat) : Int) + 2 * i + 1 := by rw [wrap_small (by omega) (by omega)]; omega
    have w2 : wrap64 (((2 * i : Nat) : Int) + 2) = ((2 * (i + 1) : Nat) : Int) := by rw [wrap_small (by omega) (by omega)]; omega
    have w3 : ((2 * i : Nat) : Int) = ((0 : Nat) : Int) + 2 * i := by omega
    have hrange := bt_range r (((0 : Nat) : Int) + 2 * i + 1)
    simp only [impl_placesOf.l0, List.range'_succ, List.all_cons, List.map_cons]
    rw [if_pos (by omega), if_pos (by omega), w1, w2]
    rw [w3]
    by_cases c1 : bt r (((0 : Nat) : Int) + 2 * i) = 32
    · rw [if_pos c1, if_pos (by omega), if_pos (by omega)]
      by_cases c2 : bt r (((0 : Nat) : Int) + 2 * i + 1) < 48
      · rw [if_pos c2, digB_f (by omega)]; simp
      · rw [if_neg c2]
        by_cases c3 : bt r (((0 : Nat) : Int) + 2 * i + 1) > 57
        · rw [if_pos c3, digB_f (by omega)]; simp
        · rw [if_neg c3, if_pos (by omega), (digB_iff r 0 i).2 ⟨c1, by omega, by omega⟩]
          rw [ih k (i + 1) _ (by omega) (by omega) (by simp; omega)]
          rw [show (bt r (((0 : Nat) : Int) + 2 * i + 1) - 48) % 256 = bt r (((0 : Nat) : Int) + 2 * i + 1) - 48 by omega, Bool.true_and]
          simp
    · rw [if_neg c1, digB_f (by omega)]; simp

theorem bt_extract (s : ByteArray) (o i : Nat) (h : o ≤ s.size) : bt (s.extract o s.size) (i : Int) = bt s ((o : Int) + i) := by
  unfold bt
  simp only [Int.toNat_natCast]
  rw [show ((o : Int) + i).toNat = o + i by omega]
  by_cases hi : i < (s.extract o s.size).size
  · rw [dif_pos hi, dif_pos (by simp at hi; omega)]
    simp [ByteArray.getElem_extract]
  · rw [dif_neg hi, dif_neg (by simp at hi; omega)]

theorem digB_extract (s : ByteArray) (o i : Nat) (h : o ≤ s.size) : digB (s.extract o s.size) 0 i = digB s o i := by
  have e1 := bt_extract s o (2 * i) h
  have e2 := bt_extract s o (2 * i + 1) h
  rw [Bool.eq_iff_iff, digB_iff, digB_iff]
  rw [show (((0 : Nat) : Int) + 2 * (i : Int)) = ((2 * i : Nat) : Int) by omega, show (((2 * i : Nat) : Int) + 1) = ((2 * i + 1 : Nat) : Int) by omega, e1, e2]
  rw [show ((o : Int) + ((2 * i : Nat) : Int)) = (o : Int) + 2 * i by omega, show ((o : Int) + ((2 * i + 1 : Nat) : Int)) = (o : Int) + 2 * i + 1 by omega]

theorem hasPrefix_f (s p : ByteArray) : stringslite_HasPrefix.f s p = some (decide (p.size ≤ s.size) && ((s.extract 0 p.size).toList == p.toList)) := by
  unfold stringslite_HasPrefix.f
  by_cases h : p.size ≤ s.size
  · rw [if_pos (by omega), if_pos (by omega), if_pos (by omega)]; simp [h]
  · rw [if_neg (by omega)]; simp [h]
theorem cutPrefix_f (s p : ByteArray) : strings_CutPrefix.f s p = some (if decide (p.size ≤ s.size) && ((s.extract 0 p.size).toList == p.toList) then (s.extract p.size s.size, true) else (s, false)) := by
  unfold strings_CutPrefix.f stringslite_CutPrefix.f
  rw [hasPrefix_f]
  simp only [Option.bind_some]
  by_cases h : p.size ≤ s.size
  · cases h2 : ((s.extract 0 p.size).toList == p.toList)
    · simp [h, h2]
    · simp only [h, decide_true, Bool.and_self, if_true]
      rw [if_pos (by omega), if_pos (by omega)]
      simp
  · simp [h]

theorem placesOf_f (s p : ByteArray) (m : Nat) (hm : m ≤ 100) : impl_placesOf.f (m + 5) s p m = some (if readOK s p m then (digL s p.size m, true) else ([], false)) := by
  unfold impl_placesOf.f
  rw [cutPrefix_f]
  simp only [Option.bind_some]
  by_cases h : p.size ≤ s.size
  case neg =>
    have hr : readOK s p m = false := by unfold readOK; rw [decide_eq_false (by omega)]; rfl
    simp only [h, decide_false, Bool.false_and, hr]
    simp [impl_placesOf.j0]
  case pos =>
    cases h2 : ((s.extract 0 p.size).toList == p.toList)
    case false =>
      have hr : readOK s p m = false := by unfold readOK; rw [h2]; simp
      simp only [h, decide_true, Bool.and_false, hr]
      simp [impl_placesOf.j0]
    case true =>
      simp only [h, decide_true, Bool.and_self, if_true]
      rw [wrap_small (by omega) (by omega)]
      have hsz : (s.extract p.size s.size).size = s.size - p.size := by simp
      by_cases h3 : s.size = p.size + 2 * m
      case neg =>
        have hr : readOK s p m = false := by unfold readOK; rw [decide_eq_false h3]; rfl
        rw [hr, hsz]
        have hb : (((s.size - p.size : Nat) : Int) != 2 * (m : Int)) = true := by rw [bne_iff_ne]; omega
        rw [hb]
        simp [impl_placesOf.j0]
      case pos =>
        have hb : (((s.size - p.size : Nat) : Int) != 2 * (m : Int)) = false := by rw [bne_eq_false_iff_eq]; omega
        rw [hsz, hb]
        simp only [impl_placesOf.j0]
        rw [if_neg (by simp)]
        have := places_loop (s.extract p.size s.size) m (by rw [hsz]; omega) hm m (m + 4) 0 [] (by omega) (by omega) rfl
        rw [show ((2 * 0 : Nat) : Int) = 0 from rfl] at this
        rw [this]
        have e1 : (List.range' 0 m).all (digB (s.extract p.size s.size) 0) = (List.range m).all (digB s p.size) := by
          rw [← List.range_eq_range']
          congr 1
          funext i
          exact digB_extract s p.size i h
        have e2 : readOK s p m = (List.range m).all (digB s p.size) := by unfold readOK; rw [h2, decide_eq_true h3]; rfl
        rw [e1, e2, ← List.range_eq_range']
        have e3 : ((List.range m).map fun (j : Nat) => bt (s.extract p.size s.size) ((0 : Int) + 2 * j + 1) - 48) = digL s p.size m := by
          unfold digL
          apply List.map_congr_left
          intro i _
          have e2 := bt_extract s p.size (2 * i + 1) h
          rw [show (((0 : Int) + 2 * (i : Int)) + 1) = ((2 * i + 1 : Nat) : Int) by omega, e2, show ((p.size : Int) + ((2 * i + 1 : Nat) : Int)) = (p.size : Int) + 2 * i + 1 by omega]
        rw [e3, List.nil_append]
end Go.Proofs.Ytlhbdeebkkpkmaa
