/- The reference's drawn permutations: some list of few small numbers, in new memory. Conditions: the code's bytes are read. -/
import Derived.Test.YtlhbdeebkkpkmaaPermLoop
namespace Go.Proofs.Ytlhbdeebkkpkmaa
open Go.RowKit Go.Shelf Go.Proofs.YtlhbdeebkkpkmaaW.PrintWords Go.Proofs.YtlhbdeebkkpkmaaW.PrintMore
set_option linter.unusedVariables false

/-- A code that is read: its bytes lie below. -/
def Code0 (w : World) (A : Option Addr) (n cap : Nat) (bs : List Int) : Prop := n ≤ cap ∧ Kd.C (Kd.int .u8) w A n bs ∧ (∀ x ∈ bs, 0 ≤ x ∧ x ≤ 255)
theorem C_lt {k : IntKind} {w : World} {A : Option Addr} {n : Nat} {bs : List Int} (h : Kd.C (Kd.int k) w A n bs) (ad : Addr) (e : A = some ad) (h0 : 0 < n) : ad.block < w.heap.size := by
  obtain ⟨ad2, e2, f⟩ := Kd.at_int h 0 (by omega) (by omega)
  obtain rfl : ad2 = ad := by rw [e] at e2; injection e2 with e2; exact e2.symm
  have hl := World.block_lt_of_cell? w _ f
  have hb : (ad2.add (0 : Int).toNat).block = ad2.block := by unfold Addr.add; split <;> rfl
  rwa [hb] at hl
theorem Code0.below {w w1 : World} {A : Option Addr} {n cap : Nat} {bs : List Int} (h : Code0 w A n cap bs) (hb : Below w.heap.size w w1) : Code0 w1 A n cap bs :=
  ⟨h.1, Kd.C_below h.2.1 hb, h.2.2⟩
/-- An opened reader of a code. -/
def Reader (w0 w : World) (b : Nat) (q : Int) : Prop := ∃ (A : Option Addr) (n cap : Nat) (bs : List Int), RdAt b A n cap q w ∧ n ≤ 2000 ∧ n ≤ cap ∧ w0.heap.size ≤ b ∧ Below w0.heap.size w0 w ∧ Kd.C (Kd.int .u8) w0 A n bs ∧ (∀ x ∈ bs, 0 ≤ x ∧ x ≤ 255) ∧ ∀ ad, A = some ad → 0 < n → ad.block ≠ b

set_option maxRecDepth 100000 in
theorem open_rd (A : Option Addr) (n cap : Nat) (bs : List Int) (w : World) (h : Code0 w A n cap bs) :
    Calls Try.prog 41 #[.slice A n cap] w fun e w' => e = .returned (.pointer (some ⟨w.heap.size, 0, none⟩)) ∧ Reader w w' w.heap.size 0 ∧ w'.heap.size = w.heap.size + 1 := by
  refine (open_any A n cap bs h.1 w h.2.1).mono ?_
  rintro e w' ⟨n', bs', rfl, rfl, h1, h2, h3, h4⟩
  refine ⟨rfl, ⟨A, n', cap, bs', heap_alloc_new w _, h1, h2, Nat.le_refl _, (Below.refl _ _).alloc (Nat.le_refl _) _, h3, fun x hx => h.2.2 x (h4 x hx), fun ad e h0 => ?_⟩, by simp⟩
  have := C_lt h3 ad e h0
  omega
theorem perm_rd (b : Nat) (q0 m : Int) (w0 w : World) (h : Reader w0 w b q0) (hq : 0 ≤ q0 ∧ q0 ≤ 1000) (hm : 1 ≤ m ∧ m ≤ 8) :
    Calls Try.prog 49 #[.pointer (some ⟨b, 0, none⟩), .int .i64 m] w fun e w' => ∃ (k : Nat) (v : Value) (q : Int), e = .returned v ∧ 1 ≤ k ∧ k ≤ 8 ∧ q0 ≤ q ∧ q ≤ q0 + 20 ∧ Row w' w.heap.size k v ∧ Reader w0 w' b q ∧ Below w0.heap.size w0 w' ∧ ∀ j, j < w.heap.size → j ≠ b → w'.heap[j]? = w.heap[j]? := by
  obtain ⟨A, n, cap, bs, h1, h2, h3, h4, h5, h6, h7, h8⟩ := h
  refine (permDraw_any b A n cap q0 m bs w0 w h1 hq hm h2 h3 h4 h5 h6 h7 h8).mono ?_
  rintro e w' ⟨k, v, q, rfl, a1, a2, a3, a4, a5, a6, a7, a8⟩
  exact ⟨k, v, q, rfl, a1, a2, a3, a4, a5, ⟨A, n, cap, bs, a6, h2, h3, h4, a7, h6, h7, h8⟩, a7, a8⟩
theorem pick_rd (b : Nat) (q m : Int) (w0 w : World) (h : Reader w0 w b q) (hq : 0 ≤ q ∧ q ≤ 100000) (hm : 1 ≤ m ∧ m ≤ 100000) :
    Calls Try.prog 42 #[.pointer (some ⟨b, 0, none⟩), .int .i64 m] w fun e w' => ∃ k : Nat, e = .returned (.int .i64 k) ∧ (k : Int) < m ∧ Aside0 (Reader w0 w' b (q + 1)) ∧ Aside0 (Below w0.heap.size w0 w') ∧ Aside0 (∀ j, j ≠ b → w'.heap[j]? = w.heap[j]?) ∧ Aside0 (w'.heap.size = w.heap.size) := by
  obtain ⟨A, n, cap, bs, h1, h2, h3, h4, h5, h6, h7, h8⟩ := h
  refine (pick_w b A n cap q m bs w0 w h1 h5 hq hm h2 h3 h6 h7 h8 h4).mono ?_
  rintro e w' ⟨k, rfl, a1, a2, a3, a4, a5⟩
  exact ⟨k, rfl, a1, ⟨⟨A, n, cap, bs, a2.out, h2, h3, h4, a3.out, h6, h7, h8⟩⟩, a3, a4, a5⟩

/-- A list of 1 to 8 small numbers in memory that is new since w. -/
def Drew (w w' : World) (e : Ending) : Prop := ∃ (k : Nat) (v : Value), e = .returned v ∧ 1 ≤ k ∧ k ≤ 8 ∧ Row w' w.heap.size k v ∧ Below w.heap.size w w'

set_option maxRecDepth 100000 in
set_option maxHeartbeats 4000000 in
theorem one_any (A : Option Addr) (n cap : Nat) (bs : List Int) (w : World) (h : Code0 w A n cap bs) :
    Calls Try.prog 40 #[.slice A n cap] w fun e w' => Drew w w' e := by
  have H := Aside0.mk h
  clear h
  go_enter Try.func40, Try.ntmps40
  go_wp2_with fail
  refine (open_rd A n cap bs _ H.out).mono ?_
  rintro e w1 ⟨rfl, h1, h2⟩
  have H1 := Aside0.mk h1
  have H2 := Aside0.mk h2
  clear h1 h2
  go_wp2_with fail
  refine (perm_rd w.heap.size 0 7 w w1 H1.out ⟨by omega, by omega⟩ ⟨by omega, by omega⟩).mono ?_
  rintro e w2 ⟨k, v, q, rfl, a1, a2, a3, a4, a5, a6, a7, a8⟩
  have H3 : Aside0 (Row w2 w.heap.size k v) := ⟨by
    obtain ⟨xs, x1, x2, x3⟩ := a5
    exact ⟨xs, x1, x2, own_weaken x3 (by rw [H2.out]; omega)⟩⟩
  have H4 := Aside0.mk a7
  clear a5 a6 a7 a8
  go_wp2_with fail
  go_ret
  exact ⟨k, v, rfl, a1, a2, H3.out, H4.out⟩
theorem drawIn_any (A : Option Addr) (n cap : Nat) (bs : List Int) (w : World) (h : Code0 w A n cap bs) :
    Calls Try.prog 28 #[.slice A n cap] w fun e w' => Drew w w' e := by
  have H := Aside0.mk h
  clear h
  go_enter Try.func28, Try.ntmps28
  go_wp2_with fail
  refine (open_rd A n cap bs _ H.out).mono ?_
  rintro e w1 ⟨rfl, h1, h2⟩
  have H1 := Aside0.mk h1
  have H2 := Aside0.mk h2
  clear h1 h2
  go_wp2_with fail
  refine (perm_rd w.heap.size 0 8 w w1 H1.out ⟨by omega, by omega⟩ ⟨by omega, by omega⟩).mono ?_
  rintro e w2 ⟨k, v, q, rfl, a1, a2, a3, a4, a5, a6, a7, a8⟩
  have H3 : Aside0 (Row w2 w.heap.size k v) := ⟨by
    obtain ⟨xs, x1, x2, x3⟩ := a5
    exact ⟨xs, x1, x2, own_weaken x3 (by rw [H2.out]; omega)⟩⟩
  have H4 := Aside0.mk a7
  clear a5 a6 a7 a8
  go_wp2_with fail
  go_ret
  exact ⟨k, v, rfl, a1, a2, H3.out, H4.out⟩
theorem drawLoose_any (A : Option Addr) (n cap : Nat) (bs : List Int) (w : World) (h : Code0 w A n cap bs) :
    Calls Try.prog 27 #[.slice A n cap] w fun e w' => Drew w w' e := by
  have H := Aside0.mk h
  clear h
  go_enter Try.func27, Try.ntmps27
  go_wp2_with fail
  refine (one_any A n cap bs _ H.out).mono ?_
  rintro e w1 ⟨k, v, rfl, a1, a2, a3, a4⟩
  have H3 := Aside0.mk a3
  have H4 := Aside0.mk a4
  clear a3 a4
  go_wp2_with fail
  go_ret
  exact ⟨k, v, rfl, a1, a2, H3.out, H4.out⟩
theorem drawFair_any (A : Option Addr) (n cap : Nat) (bs : List Int) (w : World) (h : Code0 w A n cap bs) :
    Calls Try.prog 30 #[.slice A n cap] w fun e w' => Drew w w' e := by
  have H := Aside0.mk h
  clear h
  go_enter Try.func30, Try.ntmps30
  go_wp2_with fail
  refine (one_any A n cap bs _ H.out).mono ?_
  rintro e w1 ⟨k, v, rfl, a1, a2, a3, a4⟩
  have H3 := Aside0.mk a3
  have H4 := Aside0.mk a4
  clear a3 a4
  go_wp2_with fail
  go_ret
  exact ⟨k, v, rfl, a1, a2, H3.out, H4.out⟩
end Go.Proofs.Ytlhbdeebkkpkmaa
