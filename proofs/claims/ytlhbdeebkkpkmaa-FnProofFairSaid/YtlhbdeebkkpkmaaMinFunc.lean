/- slices.Compare at lists of numbers, slices.MinFunc at lists of such lists with it: contracts. Conditions: fewer than 1000000000 numbers in a list, at least one list. -/
import Derived.Test.YtlhbdeebkkpkmaaFairP
import Derived.Test.YtlhbdeebkkpkmaaShelf
namespace Go.Proofs.Ytlhbdeebkkpkmaa
open Go.RowKit Go.Shelf Go.Proofs.YtlhbdeebkkpkmaaW.PrintWords Go.Proofs.YtlhbdeebkkpkmaaW.PrintMore
set_option linter.unusedVariables false

theorem cmpL_step {l m : List Int} {k : Nat} (h1 : k < l.length) (h2 : k < m.length) : cmpL (l.drop k) (m.drop k) = if rd l k < rd m k then -1 else if rd m k < rd l k then 1 else cmpL (l.drop (k + 1)) (m.drop (k + 1)) := by
  rw [List.drop_eq_getElem_cons h1, List.drop_eq_getElem_cons h2, cmpL]
  unfold rd
  rw [Int.toNat_natCast, List.getD_eq_getElem?_getD, List.getD_eq_getElem?_getD, List.getElem?_eq_getElem h1, List.getElem?_eq_getElem h2]
  rfl

set_option maxRecDepth 100000 in
set_option maxHeartbeats 4000000 in
theorem compare_any (A B : Option Addr) (c d : Nat) (l m : List Int) (hl : l.length ≤ 1000000000) (hm : m.length ≤ 1000000000) (w : World) (hr : Kd.C (Kd.int .i64) w A l.length l) (hs : Kd.C (Kd.int .i64) w B m.length m) :
    Calls Try.prog 47 #[.slice A l.length c, .slice B m.length d] w fun e w' => e = .returned (.int .i64 (cmpL l m)) ∧ w' = w := by
  have HR := Aside0.mk hr
  have HS := Aside0.mk hs
  clear hr hs
  go_enter Try.func47, Try.ntmps47
  go_wp2
  go_loop [11] (fun i => ∃ k : Nat, i = .int .i64 k ∧ k ≤ l.length ∧ k ≤ m.length ∧ Aside0 (cmpL (l.drop k) (m.drop k) = cmpL l m)) (fun i => l.length - (intOf i).toNat)
  case atStart => exact ⟨0, rfl, Nat.zero_le _, Nat.zero_le _, ⟨rfl⟩⟩
  case round =>
    obtain ⟨k, rfl, hk, hk2, hJ⟩ := hrel
    by_cases hlt : k < l.length
    · obtain ⟨ad, hA, f0⟩ := Kd.at_int HR.out (k : Int) (by omega) (by omega)
      rw [Int.toNat_natCast] at f0
      subst hA
      by_cases hlt2 : k < m.length
      · obtain ⟨ad2, hA2, f1⟩ := Kd.at_int HS.out (k : Int) (by omega) (by omega)
        rw [Int.toNat_natCast] at f1
        subst hA2
        have hstep := cmpL_step hlt hlt2
        rw [hJ.out] at hstep
        obtain ⟨x, hx⟩ : ∃ x, rd l (k : Int) = x := ⟨_, rfl⟩
        obtain ⟨y, hy⟩ : ∃ y, rd m (k : Int) = y := ⟨_, rfl⟩
        rw [hx, hy] at hstep
        rw [hx] at f0
        rw [hy] at f1
        clear hx hy
        obtain ⟨z, hz⟩ : ∃ z, Lib.compareInt x y = z := ⟨_, rfl⟩
        have HC := Aside0.mk (Try.cmp_Compare_int x y w)
        rw [hz] at HC
        have hzz : z ≠ 0 ∧ cmpL l m = z ∨ z = 0 ∧ cmpL (l.drop (k + 1)) (m.drop (k + 1)) = cmpL l m := by
          rw [← hz]
          unfold Lib.compareInt
          rcases Int.lt_trichotomy x y with h | h | h
          · left; rw [if_pos h, hstep, if_pos h]; exact ⟨by omega, rfl⟩
          · right; subst h; rw [hstep]; simp
          · left; rw [if_neg (by omega), if_pos (by omega), hstep, if_neg (by omega), if_pos h]; exact ⟨by omega, rfl⟩
        have HZ := Aside0.mk hzz
        clear hzz hstep hz
        rcases HZ.out with ⟨h0, he⟩ | ⟨h0, he⟩
        · have b1 : (z != 0) = true := by simpa using h0
          have HE := Aside0.mk he
          clear he h0
          go_wp2_with (go_at_call 57; refine HC.out.mono ?_; rintro e w' ⟨rfl, rfl⟩)
          go_ret
          exact ⟨by rw [HE.out]; rfl, rfl⟩
        · subst h0
          have HE := Aside0.mk he
          clear he
          go_wp2_with (go_at_call 57; refine HC.out.mono ?_; rintro e w' ⟨rfl, rfl⟩)
          go_round
          case rel => exact ⟨k + 1, by go_num, by omega, by omega, HE⟩
          case measure => simp [intOf]; omega
      · have he : cmpL l m = 1 := by
          rw [← hJ.out, show m.drop k = [] from List.drop_eq_nil_of_le (by omega), List.drop_eq_getElem_cons hlt]; rfl
        have HE := Aside0.mk he
        clear he
        go_wp2
        go_ret
        exact ⟨by rw [HE.out]; rfl, rfl⟩
    · have he : cmpL l m = if l.length < m.length then -1 else 0 := by
        rw [← hJ.out, show l.drop k = [] from List.drop_eq_nil_of_le (by omega)]
        by_cases h : l.length < m.length
        · rw [if_pos h, List.drop_eq_getElem_cons (by omega : k < m.length)]; rfl
        · rw [if_neg h, show m.drop k = [] from List.drop_eq_nil_of_le (by omega)]; rfl
      by_cases h : l.length < m.length
      · rw [if_pos h] at he
        have HE := Aside0.mk he
        clear he
        go_wp2
        go_ret
        exact ⟨by rw [HE.out]; rfl, rfl⟩
      · rw [if_neg h] at he
        have HE := Aside0.mk he
        clear he
        go_wp2
        go_ret
        exact ⟨by rw [HE.out]; rfl, rfl⟩

theorem at_row {e n : Nat} {w : World} {A : Option Addr} {xss : List (List Int)} (h : (Kd.slice e (Kd.int .i64)).C w A n xss) (i : Nat) (hi : i < n) :
    ∃ ad, A = some ad ∧ ∃ Ai ci, w.cell? (ad.add i) = some (.slice Ai (xss.getD i []).length ci) ∧ (xss.getD i []).length ≤ ci ∧ Kd.C (Kd.int .i64) w Ai (xss.getD i []).length (xss.getD i []) := by
  obtain ⟨ad, c, hA, hc, hK, hcell⟩ := Kd.C_get h [] (i : Int) (by omega) (by omega)
  rw [Int.toNat_natCast] at hK hcell
  obtain ⟨Ai, ci, rfl, hle, hC⟩ := hK
  have := hcell 0 _ rfl
  rw [show i * (Kd.slice e (Kd.int .i64)).sz + 0 = i from Nat.mul_one i] at this
  exact ⟨ad, hA, Ai, ci, this, hle, hC⟩

/-- The least list, of equals the first. -/
def minL (m : List Int) (l : List (List Int)) : List Int := l.foldl (fun m x => if cmpL x m < 0 then x else m) m
theorem minL_snoc (m : List Int) (l : List (List Int)) (x : List Int) : minL m (l ++ [x]) = if cmpL x (minL m l) < 0 then x else minL m l := by
  unfold minL; rw [List.foldl_append]; rfl

set_option maxRecDepth 100000 in
set_option maxHeartbeats 4000000 in
theorem minFunc_any (A : Option Addr) (c : Nat) (x0 : List Int) (xs : List (List Int)) (hl : xs.length ≤ 1000000000) (hrow : ∀ x ∈ x0 :: xs, x.length ≤ 1000000000) (w : World) (hr : (Kd.slice 3 (Kd.int .i64)).C w A (x0 :: xs).length (x0 :: xs)) :
    Calls Try.prog 46 #[.slice A (x0 :: xs).length c, .func (.func 47) #[] #[]] w fun e w' => (∃ B d, e = .returned (.slice B (minL x0 xs).length d) ∧ (minL x0 xs).length ≤ d ∧ Kd.C (Kd.int .i64) w B (minL x0 xs).length (minL x0 xs)) ∧ w' = w := by
  have HR := Aside0.mk hr
  have hn : (x0 :: xs).length = xs.length + 1 := rfl
  obtain ⟨n, hn2⟩ : ∃ n, (x0 :: xs).length = n := ⟨_, rfl⟩
  rw [hn2] at HR hn
  rw [hn2]
  obtain ⟨ad, hA, A0, c0, f0, hc0, r0⟩ := at_row HR.out 0 (by omega)
  rw [show ad.add 0 = ad by cases ad; simp [Addr.add]] at f0
  rw [show (x0 :: xs).getD 0 [] = x0 from rfl] at f0 hc0 r0
  subst hA
  have R0 := Aside0.mk r0
  have HN := Aside0.mk hn
  have hn1 : 1 ≤ n := by omega
  have hnb : n ≤ 1000000001 := by omega
  clear hr hn2 r0 hn hl
  go_enter Try.func46, Try.ntmps46
  go_wp2
  go_loop [5, 6] (fun v i => ∃ (k : Nat) (B : Option Addr) (d : Nat), i = .int .i64 ((k : Int) + 1) ∧ v = .slice B (minL x0 (xs.take k)).length d ∧ k + 1 ≤ n ∧ (minL x0 (xs.take k)).length ≤ d ∧ Aside0 (Kd.C (Kd.int .i64) w B (minL x0 (xs.take k)).length (minL x0 (xs.take k))) ∧ Aside0 (minL x0 (xs.take k) ∈ x0 :: xs)) (fun _ i => n - (intOf i).toNat)
  case atStart => exact ⟨0, A0, c0, rfl, rfl, hn1, hc0, R0, ⟨by simp [minL]⟩⟩
  case round =>
    obtain ⟨k, B, d, rfl, rfl, hk, hle, hC, hmem⟩ := hrel
    by_cases hltn : k + 1 < n
    · have hlt : k < xs.length := by have := HN.out; omega
      obtain ⟨ad2, hA2, A1, c1, f1, hc1, r1⟩ := at_row HR.out (k + 1) (by omega)
      obtain rfl : ad = ad2 := by injection hA2
      have hxk : (x0 :: xs).getD (k + 1) [] = xs[k] := by
        rw [List.getD_eq_getElem?_getD, List.getElem?_cons_succ, List.getElem?_eq_getElem hlt]; rfl
      rw [hxk] at f1 hc1 r1
      have hxm : xs[k] ∈ x0 :: xs := List.mem_cons_of_mem _ (List.getElem_mem hlt)
      have hst : minL x0 (xs.take (k + 1)) = if cmpL xs[k] (minL x0 (xs.take k)) < 0 then xs[k] else minL x0 (xs.take k) := by
        rw [List.take_add_one, List.getElem?_eq_getElem hlt]; exact minL_snoc _ _ _
      have HMM := Aside0.mk (hrow _ hmem.out)
      obtain ⟨y, hy⟩ : ∃ y, xs[k] = y := ⟨_, rfl⟩
      obtain ⟨m, hm⟩ : ∃ m, minL x0 (xs.take k) = m := ⟨_, rfl⟩
      rw [hy] at f1 hc1 r1 hxm hst
      rw [hm] at hst hle hC hmem HMM ⊢
      have f2 := f1
      simp only [Addr.add, Nat.succ_ne_zero, if_false] at f2
      have HYL := Aside0.mk (hrow _ hxm)
      have HST := Aside0.mk hst
      have HR1 := Aside0.mk r1
      have HXM := Aside0.mk hxm
      have HCM := Aside0.mk (compare_any A1 B c1 d y m HYL.out HMM.out w HR1.out hC.out)
      clear hxk hxm hst hy hm hA2 r1 hlt
      by_cases hcm : cmpL y m < 0
      · have hs2 : minL x0 (xs.take (k + 1)) = y := by rw [HST.out, if_pos hcm]
        have HS2 := Aside0.mk hs2
        clear hs2
        go_wp2_with (go_at_call 47; refine HCM.out.mono ?_; rintro e w' ⟨rfl, rfl⟩)
        go_round
        case rel => exact ⟨k + 1, A1, c1, by go_num, by rw [HS2.out], by omega, by rw [HS2.out]; exact hc1, ⟨by rw [HS2.out]; exact HR1.out⟩, ⟨by rw [HS2.out]; exact HXM.out⟩⟩
        case measure => simp [intOf]; omega
      · have hs2 : minL x0 (xs.take (k + 1)) = m := by rw [HST.out, if_neg hcm]
        have HS2 := Aside0.mk hs2
        clear hs2
        go_wp2_with (go_at_call 47; refine HCM.out.mono ?_; rintro e w' ⟨rfl, rfl⟩)
        go_round
        case rel => exact ⟨k + 1, B, d, by go_num, by rw [HS2.out], by omega, by rw [HS2.out]; exact hle, ⟨by rw [HS2.out]; exact hC.out⟩, ⟨by rw [HS2.out]; exact hmem.out⟩⟩
        case measure => simp [intOf]; omega
    · have hke : xs.take k = xs := List.take_of_length_le (by have := HN.out; omega)
      rw [hke] at hle hC hmem ⊢
      clear hke
      go_wp2
      go_ret
      exact ⟨⟨B, d, rfl, hle, hC.out⟩, rfl⟩
end Go.Proofs.Ytlhbdeebkkpkmaa
