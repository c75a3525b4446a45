/- The reference's reader of a code: a number drawn by it lies in its range. Conditions: the reader's place and the range are small. -/
import Derived.Test.YtlhbdeebkkpkmaaMinFunc
namespace Go.Proofs.Ytlhbdeebkkpkmaa
open Go.RowKit Go.Shelf Go.Proofs.YtlhbdeebkkpkmaaW.PrintWords Go.Proofs.YtlhbdeebkkpkmaaW.PrintMore
set_option linter.unusedVariables false

theorem bits_xor_i64_nat (a b : Nat) (ha : a < 9223372036854775808) (hb : b < 9223372036854775808) : bits .xor .i64 (a : Int) (b : Int) = ((a ^^^ b : Nat) : Int) := by
  have hx : a ^^^ b < 2 ^ 63 := Nat.xor_lt_two_pow (by omega) (by omega)
  have h1 : (BitVec.ofInt 64 (a : Int)).toNat = a := by
    rw [BitVec.ofInt_natCast, BitVec.toNat_ofNat]; exact Nat.mod_eq_of_lt (by omega)
  have h2 : (BitVec.ofInt 64 (b : Int)).toNat = b := by
    rw [BitVec.ofInt_natCast, BitVec.toNat_ofNat]; exact Nat.mod_eq_of_lt (by omega)
  show IntKind.i64.wrap ((BitVec.ofInt 64 (a : Int) ^^^ BitVec.ofInt 64 (b : Int)).toNat : Int) = _
  rw [BitVec.toNat_xor, h1, h2, IntKind.wrap_i64]
  omega
theorem xor_pos {a b : Int} (ha : 0 ≤ a ∧ a < 9223372036854775808) (hb : 0 ≤ b ∧ b < 9223372036854775808) : 0 ≤ bits .xor .i64 a b := by
  obtain ⟨m, rfl⟩ := Int.eq_ofNat_of_zero_le ha.1
  obtain ⟨n, rfl⟩ := Int.eq_ofNat_of_zero_le hb.1
  rw [bits_xor_i64_nat m n (by omega) (by omega)]
  omega

/-- A reader: a code's bytes, and a place. -/
def RdAt (b : Nat) (A : Option Addr) (n cap : Nat) (q : Int) (w : World) : Prop := w.heap[b]? = some (.cells #[.slice A n cap, .int .i64 q] 48 (0, 0))
theorem RdAt.set {b : Nat} {A : Option Addr} {n cap : Nat} {q : Int} {w : World} (h : RdAt b A n cap q w) (q' : Int) : RdAt b A n cap q' (w.setCell ⟨b, 1, none⟩ (.int .i64 q')) := by
  unfold RdAt at *
  simp [World.setCell, Array.getElem?_modify, h]

set_option maxRecDepth 100000 in
set_option maxHeartbeats 8000000 in
theorem pick_any (b : Nat) (A : Option Addr) (n cap : Nat) (q m : Int) (bs : List Int) (w : World) (hb : RdAt b A n cap q w) (hq : 0 ≤ q ∧ q ≤ 100000) (hm : 1 ≤ m ∧ m ≤ 100000) (hn : n ≤ 2000) (hnc : n ≤ cap)
    (hC : Kd.C (Kd.int .u8) w A n bs) (hbs : ∀ x ∈ bs, 0 ≤ x ∧ x ≤ 255) (hA : ∀ ad, A = some ad → 0 < n → ad.block ≠ b) :
    Calls Try.prog 42 #[.pointer (some ⟨b, 0, none⟩), .int .i64 m] w fun e w' => ∃ k nd, e = .returned (.int .i64 k) ∧ 0 ≤ k ∧ k < m ∧ w' = (w.setCell ⟨b, 1, none⟩ (.int .i64 (q + 1))).drewN nd := by
  have c0 : w.cell? ⟨b, 0, none⟩ = some (.slice A n cap) := by rw [Lib.cell_of_heap hb]; rfl
  have c1 : w.cell? ⟨b, 1, none⟩ = some (.int .i64 q) := by rw [Lib.cell_of_heap hb]; rfl
  have z1 : w.frozen? ⟨b, 1, none⟩ = false := Lib.frozen_of_heap hb 1
  have hq0 := hq.1
  have hq1 := hq.2
  have hm0 := hm.1
  have hm1 := hm.2
  have hrd : ∀ i : Int, 0 ≤ i → i < n → ∃ ad x, A = some ad ∧ ad.block ≠ b ∧ (w.setCell ⟨b, 1, none⟩ (.int .i64 (q + 1))).cell? (ad.add i.toNat) = some (.int .u8 x) ∧ 0 ≤ x ∧ x ≤ 255 := by
    intro i h0 h1
    obtain ⟨ad, e, f⟩ := Kd.at_int hC i h0 h1
    have hl : i.toNat < bs.length := by have := hC.1; omega
    have hx := hbs _ (List.getElem_mem hl)
    have he : rd bs i = bs[i.toNat] := by unfold rd; rw [List.getD_eq_getElem?_getD, List.getElem?_eq_getElem hl]; rfl
    have f' : (w.setCell ⟨b, 1, none⟩ (.int .i64 (q + 1))).cell? (ad.add i.toNat) = some (.int .u8 (rd bs i)) := by
      rw [← f]
      have hbl : (ad.add i.toNat).block = ad.block := by unfold Addr.add; split <;> rfl
      exact World.cell?_of_block (Below.heap_setCell _ _ _ _ (by rw [hbl]; exact hA ad e (by omega)))
    exact ⟨ad, rd bs i, e, hA ad e (by omega), f', by rw [he]; exact hx.1, by rw [he]; exact hx.2⟩
  have HRD := Aside0.mk hrd
  have HB := Aside0.mk hb
  clear hrd hC hbs hA hb hq hm
  by_cases h0 : n = 0
  case pos =>
    subst h0
    go_enter Try.func42, Try.ntmps42
    go_wp2
    go_ret
    exact ⟨0, 0, rfl, by omega, by omega, rfl⟩
  case neg =>
  have z2 : ((n : Int) == 0) = false := by rw [beq_eq_false_iff_ne]; omega
  have z3 : decide (m < 1) = false := decide_eq_false (by omega)
  by_cases hlt : q < (n : Int)
  case pos =>
    obtain ⟨ad, x, rfl, hab, f0, x0, x1⟩ := HRD.out q hq0 hlt
    go_enter Try.func42, Try.ntmps42
    go_wp2
    go_ret
    exact ⟨x % m, 0, rfl, Int.emod_nonneg _ (by omega), Int.emod_lt_of_pos _ (by omega), rfl⟩
  case neg =>
    have hn1 : 1 ≤ (n : Int) := by omega
    have hn2 : (n : Int) ≤ 2000 := by omega
    obtain ⟨ad, x, rfl, hab, f0, x0, x1⟩ := HRD.out (q % (n : Int)) (Int.emod_nonneg _ (by omega)) (Int.emod_lt_of_pos _ (by omega))
    obtain ⟨ad2, y, e2, _, f1, y0, y1⟩ := HRD.out ((q * 7 + 3) % (n : Int)) (Int.emod_nonneg _ (by omega)) (Int.emod_lt_of_pos _ (by omega))
    obtain rfl : ad = ad2 := by injection e2
    have b0 : 0 ≤ q % (n : Int) := Int.emod_nonneg _ (by omega)
    have b1 : q % (n : Int) < n := Int.emod_lt_of_pos _ (by omega)
    have b2 : 0 ≤ (q * 7 + 3) % (n : Int) := Int.emod_nonneg _ (by omega)
    have b3 : (q * 7 + 3) % (n : Int) < n := Int.emod_lt_of_pos _ (by omega)
    have b4 : 0 ≤ q / (n : Int) := Int.ediv_nonneg hq0 (by omega)
    have b5 : q / (n : Int) ≤ q := Int.ediv_le_self _ hq0
    clear e2
    go_enter Try.func42, Try.ntmps42
    go_wp2
    go_quiet (fail)
    go_wp2
    go_ret
    have hX : 0 ≤ x * 131 + y * 1117 + q * 29 + q / (n : Int) * 53 ∧ x * 131 + y * 1117 + q * 29 + q / (n : Int) * 53 < 9223372036854775808 := by omega
    have hY := xor_pos hX ⟨Int.ediv_nonneg hX.1 (by omega), Int.lt_of_le_of_lt (Int.ediv_le_self 64 hX.1) hX.2⟩
    refine ⟨_, nq, rfl, ?_, ?_, rfl⟩
    · exact Int.tmod_nonneg _ hY
    · exact Int.tmod_lt_of_pos _ (by omega)
end Go.Proofs.Ytlhbdeebkkpkmaa
