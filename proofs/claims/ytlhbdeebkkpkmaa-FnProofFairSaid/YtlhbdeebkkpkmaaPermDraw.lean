/- The reference's drawn lists: some list of few numbers. Conditions: a code of at most 2^47 bytes. -/
import Derived.Test.YtlhbdeebkkpkmaaDraw
import Derived.Test.YtlhbdeebkkpkmaaSmall
import Derived.Deep.RegionHeld3
namespace Go.Proofs.Ytlhbdeebkkpkmaa
open Go.RowKit Go.Shelf Go.Proofs.YtlhbdeebkkpkmaaW.PrintWords Go.Proofs.YtlhbdeebkkpkmaaW.PrintMore
set_option linter.unusedVariables false

theorem C_take {k : IntKind} {w : World} {A : Option Addr} {n : Nat} {bs : List Int} (h : Kd.C (Kd.int k) w A n bs) (m : Nat) (hm : m ≤ n) : Kd.C (Kd.int k) w A m (bs.take m) := by
  obtain ⟨h1, h2, h3⟩ := h
  refine ⟨by rw [List.length_take]; omega, by omega, fun h0 => ?_⟩
  obtain ⟨ad, hA, hc⟩ := h3 (by omega)
  refine ⟨ad, hA, fun j p hj => hc j p ?_⟩
  rw [List.getElem?_take] at hj
  split at hj
  · exact hj
  · cases hj

set_option maxRecDepth 100000 in
set_option maxHeartbeats 4000000 in
theorem open_any (A : Option Addr) (n cap : Nat) (bs : List Int) (hnc : n ≤ cap) (w : World) (hC : Kd.C (Kd.int .u8) w A n bs) :
    Calls Try.prog 41 #[.slice A n cap] w fun e w' => ∃ n' bs', e = .returned (.pointer (some ⟨w.heap.size, 0, none⟩)) ∧ w' = w.alloc (.cells #[.slice A n' cap, .int .i64 0] 48) ∧ n' ≤ 2000 ∧ n' ≤ cap ∧ Kd.C (Kd.int .u8) w A n' bs' ∧ ∀ x ∈ bs', x ∈ bs := by
  have HC := Aside0.mk hC
  have hn0 := hC.2.1
  clear hC
  by_cases h : 2000 < n
  · go_enter Try.func41, Try.ntmps41
    go_wp2
    go_ret
    exact ⟨2000, bs.take 2000, rfl, rfl, by omega, by omega, C_take HC.out 2000 (by omega), fun x hx => List.mem_of_mem_take hx⟩
  · go_enter Try.func41, Try.ntmps41
    go_wp2
    go_ret
    exact ⟨n, bs, rfl, rfl, by omega, hnc, HC.out, fun x hx => hx⟩

theorem C_drop {k : IntKind} {w : World} {g n : Nat} {bs : List Int} (h : Kd.C (Kd.int k) w (some ⟨g, 0, none⟩) n bs) (m : Nat) (hm : m ≤ n) : Kd.C (Kd.int k) w (some ⟨g, m, none⟩) (n - m) (bs.drop m) := by
  obtain ⟨h1, h2, h3⟩ := h
  refine ⟨by rw [List.length_drop]; omega, by omega, fun h0 => ?_⟩
  obtain ⟨ad, hA, hc⟩ := h3 (by omega)
  obtain rfl : (⟨g, 0, none⟩ : Addr) = ad := by injection hA
  refine ⟨_, rfl, fun j p hj => ?_⟩
  rw [List.getElem?_drop] at hj
  obtain ⟨c, e1, e2, e3⟩ := hc (m + j) p hj
  refine ⟨c, e1, e2, fun i u hi => ?_⟩
  rw [← e3 i u hi]
  have hs : (Kd.int k).sz = 1 := rfl
  congr 1
  rw [hs]
  unfold Addr.add
  split <;> split <;> simp_all <;> omega
theorem Row.nil (w : World) (base : Nat) (hb : base ≤ w.heap.size) : Row (w.alloc (.cells #[] 3)) base 0 (.slice (some ⟨w.heap.size, 0, none⟩) 0 0) :=
  ⟨[], rfl, by simp, World.ownsRow_made (size := 1) w #[] 0 hb (by unfold maxLen; omega) rfl⟩
theorem Row.form {w : World} {base n : Nat} {v : Value} (h : Row w base n v) (h0 : 0 < n) : ∃ g c, v = .slice (some ⟨g, 0, none⟩) n c := by
  obtain ⟨xs, h1, h2, ho⟩ := h
  rcases ho.2 with ⟨_, e⟩ | ⟨g, c, cur, e, _⟩
  · omega
  · exact ⟨g, c, e⟩
theorem Row.cap {w : World} {base n g m c : Nat} (h : Row w base n (.slice (some ⟨g, 0, none⟩) m c)) : m = n ∧ n ≤ c ∧ base ≤ g ∧ g < w.heap.size := by
  obtain ⟨xs, h1, h2, ho⟩ := h
  have hlt := ho.lt g rfl
  rcases ho.2 with ⟨e, _⟩ | ⟨g', c', cur, e, _, _, h5, _⟩
  · cases e
  · injection e with e1 e2 e3
    subst e2 e3
    exact ⟨rfl, h5, hlt.1, hlt.2⟩
theorem Row.reads {w : World} {base n : Nat} {A : Option Addr} {m c : Nat} (h : Row w base n (.slice A m c)) : ∃ xs : List Int, xs.length = n ∧ (∀ x ∈ xs, 0 ≤ x ∧ x ≤ 10) ∧ Kd.C (Kd.int .i64) w A n xs := by
  obtain ⟨xs, h1, h2, ho⟩ := h
  subst h1
  have hR := Kd.R_of_own (enc := Value.int .i64) (h1 := fun _ => rfl) (ok := fun _ => True) ho (fun _ _ => trivial)
  obtain ⟨A1, c1, e, _, hc⟩ := Kd.R_reads hR
  injection e with e1 e2 e3
  subst e1
  exact ⟨xs, rfl, h2, hc⟩
theorem Row.move {w w1 : World} {base n : Nat} {v : Value} (h : Row w base n v) (hm : ∀ k, base ≤ k → k < w.heap.size → w1.heap[k]? = w.heap[k]?) : Row w1 base n v := by
  obtain ⟨xs, h1, h2, ho⟩ := h
  exact ⟨xs, h1, h2, own_move ho (fun k hk => hm k (ho.lt k hk).1 (ho.lt k hk).2)⟩
theorem Row.take {w : World} {base n g c : Nat} (h : Row w base n (.slice (some ⟨g, 0, none⟩) n c)) (m : Nat) (hm : m ≤ n) : ∀ W, Below w.heap.size w W → Src W (some ⟨g, 0, none⟩) m := by
  intro W hb
  obtain ⟨xs, h1, h2, hc⟩ := h.reads
  exact ⟨xs.take m, by rw [List.length_take]; omega, fun x hx => h2 x (List.mem_of_mem_take hx), C_take (Kd.C_below hc hb) m hm⟩
theorem Row.drop {w : World} {base n g c : Nat} (h : Row w base n (.slice (some ⟨g, 0, none⟩) n c)) (m : Nat) (hm : m ≤ n) : ∀ W, Below w.heap.size w W → Src W (some ⟨g, m, none⟩) (n - m) := by
  intro W hb
  obtain ⟨xs, h1, h2, hc⟩ := h.reads
  exact ⟨xs.drop m, by rw [List.length_drop]; omega, fun x hx => h2 x (List.mem_of_mem_drop hx), C_drop (Kd.C_below hc hb) m hm⟩
theorem Src.none_ (W : World) (ad : Addr) : Src W (some ad) 0 := ⟨[], rfl, by simp, rfl, by omega, fun h => absurd h (by omega)⟩
theorem Inv.row {W0 W : World} {v : Value} {n m base : Nat} {B : Option Nat} (h : Inv W0 W v n B) (hb : base ≤ W0.heap.size) (hn : n = m) : Row W base m v := by
  subst hn
  obtain ⟨_, ⟨xs, h1, h2, ho⟩, _⟩ := h
  exact ⟨xs, h1, h2, own_weaken ho hb⟩
theorem RdAt.below {b : Nat} {A : Option Addr} {n cap : Nat} {q : Int} {w W : World} (h : RdAt b A n cap q w) (hb : Below w.heap.size w W) : RdAt b A n cap q W := by
  unfold RdAt at *
  rw [hb.block b (Array.getElem?_eq_some_iff.1 h).1, h]

set_option maxRecDepth 100000 in
/-- A drawn number; the reader goes on by one, and no other block turns. -/
theorem pick_w (b : Nat) (A : Option Addr) (n cap : Nat) (q m : Int) (bs : List Int) (w0 w : World) (hb : RdAt b A n cap q w) (hw : Below w0.heap.size w0 w) (hq : 0 ≤ q ∧ q ≤ 100000) (hm : 1 ≤ m ∧ m ≤ 100000) (hn : n ≤ 2000) (hnc : n ≤ cap)
    (hC : Kd.C (Kd.int .u8) w0 A n bs) (hbs : ∀ x ∈ bs, 0 ≤ x ∧ x ≤ 255) (hA : ∀ ad, A = some ad → 0 < n → ad.block ≠ b) (hwb : w0.heap.size ≤ b) :
    Calls Try.prog 42 #[.pointer (some ⟨b, 0, none⟩), .int .i64 m] w fun e w' => ∃ k : Nat, e = .returned (.int .i64 k) ∧ (k : Int) < m ∧ Aside0 (RdAt b A n cap (q + 1) w') ∧ Aside0 (Below w0.heap.size w0 w') ∧ Aside0 (∀ j, j ≠ b → w'.heap[j]? = w.heap[j]?) ∧ Aside0 (w'.heap.size = w.heap.size) := by
  refine (pick_any b A n cap q m bs w hb hq hm hn hnc (Kd.C_below hC hw) hbs hA).mono ?_
  rintro e w' ⟨k, nd, rfl, h0, h1, rfl⟩
  refine ⟨k.toNat, by rw [Int.toNat_of_nonneg h0], by rw [Int.toNat_of_nonneg h0]; exact h1, ⟨hb.set (q + 1)⟩, ⟨(hw.setCell (p := ⟨b, 1, none⟩) hwb _).trans ⟨rfl, rfl, rfl, Nat.le_refl _, fun _ _ => rfl⟩⟩, ⟨fun j hj => Below.heap_setCell _ _ _ _ hj⟩, ⟨by simp⟩⟩

end Go.Proofs.Ytlhbdeebkkpkmaa
