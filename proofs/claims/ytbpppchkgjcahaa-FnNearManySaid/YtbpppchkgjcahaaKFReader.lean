/- The reference's reader of a code: a number drawn by it lies in its range; a word drawn by it is of the list. -/
import Derived.Test.YtbpppchkgjcahaaKFIoM
import Derived.Test.YtbpppchkgjcahaaProg
import Derived.Deep.RegionHeld3
import Derived.Lib.Builder
namespace Go.Proofs.Ytbpppchkgjcahaa
open Go.RowKit Go.Shelf Go.Proofs.YtbpppchkgjcahaaW.PrintWords Go.Proofs.YtbpppchkgjcahaaW.PrintMore
set_option linter.unusedVariables false
theorem bits_xor_i64_nat (a b : Nat) (ha : a < 9223372036854775808) (hb : b < 9223372036854775808) : bits .xor .i64 (a : Int) (b : Int) = ((a ^^^ b : Nat) : Int) := by
  have hx : a ^^^ b < 2 ^ 63 := Nat.xor_lt_two_pow (by omega) (by omega)
  have h1 : (BitVec.ofInt 64 (a : Int)).toNat = a := by
    rw [BitVec.ofInt_natCast, BitVec.toNat_ofNat]; exact Nat.mod_eq_of_lt (by omega)
  have h2 : (BitVec.ofInt 64 (b : Int)).toNat = b := by
    rw [BitVec.ofInt_natCast, BitVec.toNat_ofNat]; exact Nat.mod_eq_of_lt (by omega)
  show IntKind.i64.wrap ((BitVec.ofInt 64 (a : Int) ^^^ BitVec.ofInt 64 (b : Int)).toNat : Int) = _
  rw [BitVec.toNat_xor, h1, h2, IntKind.wrap_i64]
  omega
theorem xor_pos {a b : Int} (ha : 0 ≤ a ∧ a < 9223372036854775808) (hb : 0 ≤ b ∧ b < 9223372036854775808) : 0 ≤ bits .xor .i64 a b := by
  obtain ⟨m, rfl⟩ := Int.eq_ofNat_of_zero_le ha.1
  obtain ⟨n, rfl⟩ := Int.eq_ofNat_of_zero_le hb.1
  rw [bits_xor_i64_nat m n (by omega) (by omega)]
  omega
def RdAt (b : Nat) (A : Option Addr) (n cap : Nat) (q : Int) (w : World) : Prop := w.heap[b]? = some (.cells #[.slice A n cap, .int .i64 q] 156 (0, 0))
theorem RdAt.set {b : Nat} {A : Option Addr} {n cap : Nat} {q : Int} {w : World} (h : RdAt b A n cap q w) (q' : Int) : RdAt b A n cap q' (w.setCell ⟨b, 1, none⟩ (.int .i64 q')) := by
  unfold RdAt at *
  simp [World.setCell, Array.getElem?_modify, h]
set_option maxRecDepth 100000 in
set_option maxHeartbeats 8000000 in
theorem pick_any (b : Nat) (A : Option Addr) (n cap : Nat) (q m : Int) (bs : List Int) (w : World) (hb : RdAt b A n cap q w) (hq : 0 ≤ q ∧ q ≤ 100000) (hm : 1 ≤ m ∧ m ≤ 100000) (hn : n ≤ 2000) (hnc : n ≤ cap)
    (hC : Kd.C (Kd.int .u8) w A n bs) (hbs : ∀ x ∈ bs, 0 ≤ x ∧ x ≤ 255) (hA : ∀ ad, A = some ad → 0 < n → ad.block ≠ b) :
    Calls Try.prog 127 #[.pointer (some ⟨b, 0, none⟩), .int .i64 m] w fun e w' => ∃ k nd, e = .returned (.int .i64 k) ∧ 0 ≤ k ∧ k < m ∧ w' = (w.setCell ⟨b, 1, none⟩ (.int .i64 (q + 1))).drewN nd := by
  have c0 : w.cell? ⟨b, 0, none⟩ = some (.slice A n cap) := by rw [Lib.cell_of_heap hb]; rfl
  have c1 : w.cell? ⟨b, 1, none⟩ = some (.int .i64 q) := by rw [Lib.cell_of_heap hb]; rfl
  have z1 : w.frozen? ⟨b, 1, none⟩ = false := Lib.frozen_of_heap hb 1
  have hq0 := hq.1
  have hq1 := hq.2
  have hm0 := hm.1
  have hm1 := hm.2
  have hrd : ∀ i : Int, 0 ≤ i → i < n → ∃ ad x, A = some ad ∧ ad.block ≠ b ∧ (w.setCell ⟨b, 1, none⟩ (.int .i64 (q + 1))).cell? (ad.add i.toNat) = some (.int .u8 x) ∧ 0 ≤ x ∧ x ≤ 255 := by
    intro i h0 h1
    obtain ⟨ad, e, f⟩ := Kd.at_int hC i h0 h1
    have hl : i.toNat < bs.length := by have := hC.1; omega
    have hx := hbs _ (List.getElem_mem hl)
    have he : rd bs i = bs[i.toNat] := by unfold rd; rw [List.getD_eq_getElem?_getD, List.getElem?_eq_getElem hl]; rfl
    have f' : (w.setCell ⟨b, 1, none⟩ (.int .i64 (q + 1))).cell? (ad.add i.toNat) = some (.int .u8 (rd bs i)) := by
      rw [← f]
      have hbl : (ad.add i.toNat).block = ad.block := by unfold Addr.add; split <;> rfl
      exact World.cell?_of_block (Below.heap_setCell _ _ _ _ (by rw [hbl]; exact hA ad e (by omega)))
    exact ⟨ad, rd bs i, e, hA ad e (by omega), f', by rw [he]; exact hx.1, by rw [he]; exact hx.2⟩
  have HRD := Aside0.mk hrd
  have HB := Aside0.mk hb
  clear hrd hC hbs hA hb hq hm
  by_cases h0 : n = 0
  case pos =>
    subst h0
    go_enter Try.func127, Try.ntmps127
    go_wp2
    go_ret
    exact ⟨0, 0, rfl, by omega, by omega, rfl⟩
  case neg =>
  have z2 : ((n : Int) == 0) = false := by rw [beq_eq_false_iff_ne]; omega
  have z3 : decide (m < 1) = false := decide_eq_false (by omega)
  by_cases hlt : q < (n : Int)
  case pos =>
    obtain ⟨ad, x, rfl, hab, f0, x0, x1⟩ := HRD.out q hq0 hlt
    go_enter Try.func127, Try.ntmps127
    go_wp2
    go_ret
    exact ⟨x % m, 0, rfl, Int.emod_nonneg _ (by omega), Int.emod_lt_of_pos _ (by omega), rfl⟩
  case neg =>
    have hn1 : 1 ≤ (n : Int) := by omega
    have hn2 : (n : Int) ≤ 2000 := by omega
    obtain ⟨ad, x, rfl, hab, f0, x0, x1⟩ := HRD.out (q % (n : Int)) (Int.emod_nonneg _ (by omega)) (Int.emod_lt_of_pos _ (by omega))
    obtain ⟨ad2, y, e2, _, f1, y0, y1⟩ := HRD.out ((q * 7 + 3) % (n : Int)) (Int.emod_nonneg _ (by omega)) (Int.emod_lt_of_pos _ (by omega))
    obtain rfl : ad = ad2 := by injection e2
    have b0 : 0 ≤ q % (n : Int) := Int.emod_nonneg _ (by omega)
    have b1 : q % (n : Int) < n := Int.emod_lt_of_pos _ (by omega)
    have b2 : 0 ≤ (q * 7 + 3) % (n : Int) := Int.emod_nonneg _ (by omega)
    have b3 : (q * 7 + 3) % (n : Int) < n := Int.emod_lt_of_pos _ (by omega)
    have b4 : 0 ≤ q / (n : Int) := Int.ediv_nonneg hq0 (by omega)
    have b5 : q / (n : Int) ≤ q := Int.ediv_le_self _ hq0
    clear e2
    go_enter Try.func127, Try.ntmps127
    go_wp2
    go_quiet (fail)
    go_wp2
    go_ret
    have hX : 0 ≤ x * 131 + y * 1117 + q * 29 + q / (n : Int) * 53 ∧ x * 131 + y * 1117 + q * 29 + q / (n : Int) * 53 < 9223372036854775808 := by omega
    have hY := xor_pos hX ⟨Int.ediv_nonneg hX.1 (by omega), Int.lt_of_le_of_lt (Int.ediv_le_self 64 hX.1) hX.2⟩
    refine ⟨_, nq, rfl, ?_, ?_, rfl⟩
    · exact Int.tmod_nonneg _ hY
    · exact Int.tmod_lt_of_pos _ (by omega)
theorem C_take {k : IntKind} {w : World} {A : Option Addr} {n : Nat} {bs : List Int} (h : Kd.C (Kd.int k) w A n bs) (m : Nat) (hm : m ≤ n) : Kd.C (Kd.int k) w A m (bs.take m) := by
  obtain ⟨h1, h2, h3⟩ := h
  refine ⟨by rw [List.length_take]; omega, by omega, fun h0 => ?_⟩
  obtain ⟨ad, hA, hc⟩ := h3 (by omega)
  refine ⟨ad, hA, fun j p hj => hc j p ?_⟩
  rw [List.getElem?_take] at hj
  split at hj
  · exact hj
  · cases hj
set_option maxRecDepth 100000 in
set_option maxHeartbeats 4000000 in
theorem open_any (A : Option Addr) (n cap : Nat) (bs : List Int) (hnc : n ≤ cap) (w : World) (hC : Kd.C (Kd.int .u8) w A n bs) :
    Calls Try.prog 98 #[.slice A n cap] w fun e w' => ∃ n' bs', e = .returned (.pointer (some ⟨w.heap.size, 0, none⟩)) ∧ w' = w.alloc (.cells #[.slice A n' cap, .int .i64 0] 156) ∧ n' ≤ 2000 ∧ n' ≤ cap ∧ Kd.C (Kd.int .u8) w A n' bs' ∧ ∀ x ∈ bs', x ∈ bs := by
  have HC := Aside0.mk hC
  have hn0 := hC.2.1
  clear hC
  by_cases h : 2000 < n
  · go_enter Try.func98, Try.ntmps98
    go_wp2
    go_ret
    exact ⟨2000, bs.take 2000, rfl, rfl, by omega, by omega, C_take HC.out 2000 (by omega), fun x hx => List.mem_of_mem_take hx⟩
  · go_enter Try.func98, Try.ntmps98
    go_wp2
    go_ret
    exact ⟨n, bs, rfl, rfl, by omega, hnc, HC.out, fun x hx => hx⟩
theorem RdAt.below {b : Nat} {A : Option Addr} {n cap : Nat} {q : Int} {w W : World} (h : RdAt b A n cap q w) (hb : Below w.heap.size w W) : RdAt b A n cap q W := by
  unfold RdAt at *
  rw [hb.block b (Array.getElem?_eq_some_iff.1 h).1, h]
set_option maxRecDepth 100000 in
theorem pick_w (b : Nat) (A : Option Addr) (n cap : Nat) (q m : Int) (bs : List Int) (w0 w : World) (hb : RdAt b A n cap q w) (hw : Below w0.heap.size w0 w) (hq : 0 ≤ q ∧ q ≤ 100000) (hm : 1 ≤ m ∧ m ≤ 100000) (hn : n ≤ 2000) (hnc : n ≤ cap)
    (hC : Kd.C (Kd.int .u8) w0 A n bs) (hbs : ∀ x ∈ bs, 0 ≤ x ∧ x ≤ 255) (hA : ∀ ad, A = some ad → 0 < n → ad.block ≠ b) (hwb : w0.heap.size ≤ b) :
    Calls Try.prog 127 #[.pointer (some ⟨b, 0, none⟩), .int .i64 m] w fun e w' => ∃ k : Nat, e = .returned (.int .i64 k) ∧ (k : Int) < m ∧ Aside0 (RdAt b A n cap (q + 1) w') ∧ Aside0 (Below w0.heap.size w0 w') ∧ Aside0 (∀ j, j ≠ b → w'.heap[j]? = w.heap[j]?) ∧ Aside0 (w'.heap.size = w.heap.size) := by
  refine (pick_any b A n cap q m bs w hb hq hm hn hnc (Kd.C_below hC hw) hbs hA).mono ?_
  rintro e w' ⟨k, nd, rfl, h0, h1, rfl⟩
  refine ⟨k.toNat, by rw [Int.toNat_of_nonneg h0], by rw [Int.toNat_of_nonneg h0]; exact h1, ⟨hb.set (q + 1)⟩, ⟨(hw.setCell (p := ⟨b, 1, none⟩) hwb _).trans ⟨rfl, rfl, rfl, Nat.le_refl _, fun _ _ => rfl⟩⟩, ⟨fun j hj => Below.heap_setCell _ _ _ _ hj⟩, ⟨by simp⟩⟩
def Code0 (w : World) (A : Option Addr) (n cap : Nat) (bs : List Int) : Prop := n ≤ cap ∧ Kd.C (Kd.int .u8) w A n bs ∧ (∀ x ∈ bs, 0 ≤ x ∧ x ≤ 255)
theorem C_lt {k : IntKind} {w : World} {A : Option Addr} {n : Nat} {bs : List Int} (h : Kd.C (Kd.int k) w A n bs) (ad : Addr) (e : A = some ad) (h0 : 0 < n) : ad.block < w.heap.size := by
  obtain ⟨ad2, e2, f⟩ := Kd.at_int h 0 (by omega) (by omega)
  obtain rfl : ad2 = ad := by rw [e] at e2; injection e2 with e2; exact e2.symm
  have hl := World.block_lt_of_cell? w _ f
  have hb : (ad2.add (0 : Int).toNat).block = ad2.block := by unfold Addr.add; split <;> rfl
  rwa [hb] at hl
theorem Code0.below {w w1 : World} {A : Option Addr} {n cap : Nat} {bs : List Int} (h : Code0 w A n cap bs) (hb : Below w.heap.size w w1) : Code0 w1 A n cap bs :=
  ⟨h.1, Kd.C_below h.2.1 hb, h.2.2⟩
def Reader (w0 w : World) (b : Nat) (q : Int) : Prop := ∃ (A : Option Addr) (n cap : Nat) (bs : List Int), RdAt b A n cap q w ∧ n ≤ 2000 ∧ n ≤ cap ∧ w0.heap.size ≤ b ∧ Below w0.heap.size w0 w ∧ Kd.C (Kd.int .u8) w0 A n bs ∧ (∀ x ∈ bs, 0 ≤ x ∧ x ≤ 255) ∧ ∀ ad, A = some ad → 0 < n → ad.block ≠ b
set_option maxRecDepth 100000 in
theorem open_rd (A : Option Addr) (n cap : Nat) (bs : List Int) (w : World) (h : Code0 w A n cap bs) :
    Calls Try.prog 98 #[.slice A n cap] w fun e w' => e = .returned (.pointer (some ⟨w.heap.size, 0, none⟩)) ∧ Reader w w' w.heap.size 0 ∧ w'.heap.size = w.heap.size + 1 := by
  refine (open_any A n cap bs h.1 w h.2.1).mono ?_
  rintro e w' ⟨n', bs', rfl, rfl, h1, h2, h3, h4⟩
  refine ⟨rfl, ⟨A, n', cap, bs', heap_alloc_new w _, h1, h2, Nat.le_refl _, (Below.refl _ _).alloc (Nat.le_refl _) _, h3, fun x hx => h.2.2 x (h4 x hx), fun ad e h0 => ?_⟩, by simp⟩
  have := C_lt h3 ad e h0
  omega
theorem pick_rd (b : Nat) (q m : Int) (w0 w : World) (h : Reader w0 w b q) (hq : 0 ≤ q ∧ q ≤ 100000) (hm : 1 ≤ m ∧ m ≤ 100000) :
    Calls Try.prog 127 #[.pointer (some ⟨b, 0, none⟩), .int .i64 m] w fun e w' => ∃ k : Nat, e = .returned (.int .i64 k) ∧ (k : Int) < m ∧ Aside0 (Reader w0 w' b (q + 1)) ∧ Aside0 (Below w0.heap.size w0 w') ∧ Aside0 (∀ j, j ≠ b → w'.heap[j]? = w.heap[j]?) ∧ Aside0 (w'.heap.size = w.heap.size) := by
  obtain ⟨A, n, cap, bs, h1, h2, h3, h4, h5, h6, h7, h8⟩ := h
  refine (pick_w b A n cap q m bs w0 w h1 h5 hq hm h2 h3 h6 h7 h8 h4).mono ?_
  rintro e w' ⟨k, rfl, a1, a2, a3, a4, a5⟩
  exact ⟨k, rfl, a1, ⟨⟨A, n, cap, bs, a2.out, h2, h3, h4, a3.out, h6, h7, h8⟩⟩, a3, a4, a5⟩
set_option maxRecDepth 100000 in
set_option maxHeartbeats 4000000 in
theorem of_any (b : Nat) (q : Int) (w0 w : World) (h : Reader w0 w b q) (hq : 0 ≤ q ∧ q ≤ 100000) (B N : Nat) (hN : 1 ≤ N ∧ N ≤ 100) (ss : List ByteArray) (hss : ss.length = N) (hB : B ≠ b)
    (hc : ∀ i x, ss[i]? = some x → w.cell? ⟨B, i, none⟩ = some (.string x)) :
    Calls Try.prog 208 #[.pointer (some ⟨b, 0, none⟩), .slice (some ⟨B, 0, none⟩) N N] w fun e w' => ∃ s, s ∈ ss ∧ e = .returned (.string s) ∧ Aside0 (Reader w0 w' b (q + 1)) ∧ Aside0 (∀ j, j ≠ b → w'.heap[j]? = w.heap[j]?) ∧ Aside0 (w'.heap.size = w.heap.size) := by
  have HP := pick_rd b q N w0 w h hq ⟨by omega, by omega⟩
  have HC := Aside0.mk hc
  have HB := Aside0.mk hB
  have HS := Aside0.mk hss
  clear h hc hB hss hq
  go_enter Try.func208, Try.ntmps208
  go_wp2_with fail
  refine HP.mono ?_
  rintro e w1 ⟨k, rfl, hk, H1, H2, H3, H4⟩
  have hl : k < ss.length := by have := HS.out; omega
  have hcell : w1.cell? ⟨B, k, none⟩ = some (.string ss[k]) := by
    rw [← HC.out k ss[k] (List.getElem?_eq_getElem hl)]
    exact World.cell?_of_block (H3.out B HB.out)
  have hk0 : (0 : Int) ≤ (k : Int) := by omega
  go_wp2_with fail
  go_ret
  exact ⟨ss[k], List.getElem_mem hl, rfl, H1, H3, H4⟩
theorem str_cells {W : World} {B : Nat} {cs : Array Value} {t : TypeId} (h : W.heap[B]? = some (.cells cs t (0, 0))) (ss : List ByteArray) (he : cs = (ss.map Value.string).toArray) :
    ∀ i x, ss[i]? = some x → W.cell? ⟨B, i, none⟩ = some (.string x) := by
  intro i x hx
  subst he
  simp [World.cell?, h, hx]
theorem Reader.set {w0 w : World} {b : Nat} {q : Int} (h : Reader w0 w b q) (q' : Int) : Reader w0 (w.setCell ⟨b, 1, none⟩ (.int .i64 q')) b q' := by
  obtain ⟨A, n, cap, bs, h1, h2, h3, h4, h5, h6⟩ := h
  exact ⟨A, n, cap, bs, h1.set q', h2, h3, h4, h5.setCell (p := ⟨b, 1, none⟩) h4 _, h6⟩
theorem Reader.alloc {w0 w : World} {b : Nat} {q : Int} (h : Reader w0 w b q) (o : Obj) : Reader w0 (w.alloc o) b q := by
  obtain ⟨A, n, cap, bs, h1, h2, h3, h4, h5, h6⟩ := h
  exact ⟨A, n, cap, bs, h1.below ((Below.refl _ _).alloc (Nat.le_refl _) _), h2, h3, h4, h5.alloc h5.size _, h6⟩
theorem Reader.field {w0 w : World} {b : Nat} {q : Int} (h : Reader w0 w b q) : ∃ v, w.heap[b]? = some (.cells #[v, .int .i64 q] 156 (0, 0)) := by
  obtain ⟨A, n, cap, bs, h1, _⟩ := h
  exact ⟨_, h1⟩
theorem new_at {w : World} {o : Obj} {B : Nat} (h : B = w.heap.size) : (w.alloc o).heap[B]? = some o := by rw [h]; exact heap_alloc_new w o
theorem Reader.lt {w0 w : World} {b : Nat} {q : Int} (h : Reader w0 w b q) : b < w.heap.size := by
  obtain ⟨v, hv⟩ := h.field
  exact (Array.getElem?_eq_some_iff.1 hv).1
theorem Reader.bel {w0 w : World} {b : Nat} {q : Int} (h : Reader w0 w b q) : Below w0.heap.size w0 w := by
  obtain ⟨A, n, cap, bs, h1, h2, h3, h4, h5, h6⟩ := h
  exact h5
end Go.Proofs.Ytbpppchkgjcahaa
