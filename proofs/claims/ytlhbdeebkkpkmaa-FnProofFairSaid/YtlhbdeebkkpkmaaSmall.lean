/- Rows of small numbers of the call's own, while a region that draws its order appends to them. -/
import Derived.Test.YtlhbdeebkkpkmaaRowsIn
namespace Go.Proofs.Ytlhbdeebkkpkmaa
open Go.RowKit Go.Shelf Go.Proofs.YtlhbdeebkkpkmaaW.PrintWords Go.Proofs.YtlhbdeebkkpkmaaW.PrintMore
set_option linter.unusedVariables false
section
variable {P : Program} {ops : Array Oper} {o : Oper} {a : Act} {K : Act → World → Prop} {Q : Exit → Act → World → Prop}
/-- An append of m numbers to a row of the call's own, at a step of a region that draws its order. -/
theorem step_append_ints {W : World} (base : Nat) (hw : Region.wanted o (yielded ops a.tmps) = true) (s x : Operand) (t e : TypeId)
    (ho : o.op = .call { callee := .builtin .append, args := #[s, x], argTypes := #[t, t] })
    (ht : P.underlying t = some (.slice e)) (hinfo : (P.info? e).map (fun i => (i.zero, i.size, i.bytes)) = some (some (.int .i64 0), 1, 8))
    (v : Value) (n : Nat) (xs : List Value) (ad : Addr) (m c : Nat) (ys : List Int) (hs : a.eval s = v) (hx : a.eval x = .slice (some ad) m c)
    (hown : W.ownsRow base e 1 v n xs) (hys : ys.length = m) (hC : Kd.C (Kd.int .i64) W (some ad) m ys) (hbase : base ≤ W.heap.size) (hl : n + m ≤ 1000)
    (h : ∀ v1 w1, w1.ownsRow base e 1 v1 (n + m) (xs ++ encs (Value.int .i64) ys) → W.grownBy w1 v.ownBlock → (v1.ownBlock = v.ownBlock ∨ v1.ownBlock = some W.heap.size) → K (a.put o.dst v1) w1) :
    if Region.wanted o (yielded ops a.tmps) = true then Oper.wp P o a W K Q else K (a.put o.dst undef) W := by
  obtain ⟨i0, hi, hzz⟩ := Option.map_eq_some_iff.1 hinfo
  simp only [Prod.mk.injEq] at hzz
  obtain ⟨hz0, hz1, hz2⟩ := hzz
  rw [if_pos hw]
  obtain ⟨v1, w1, hr, hown1, hg, _, hat⟩ := run_append_own_at (P := P) W base t o.type e i0 (.int .i64 0) 1 8 ht hi hz0 hz1 hz2 rfl (by omega) v n xs hown ad m c (encs (Value.int .i64) ys) (by simp [encs, hys])
    (fun j u hj => by
      have hjl : j < ys.length := by simpa [encs] using (List.getElem?_eq_some_iff.1 hj).1
      obtain ⟨ad2, e2, f⟩ := Kd.at_int hC (j : Int) (by omega) (by omega)
      injection e2 with e2
      subst e2
      rw [Int.toNat_natCast] at f
      rw [f]
      simp [encs] at hj
      obtain ⟨y, hy, rfl⟩ := hj
      unfold rd
      rw [Int.toNat_natCast, List.getD_eq_getElem?_getD, hy]
      rfl) (fun u hu => by simp [encs] at hu; obtain ⟨y, _, rfl⟩ := hu; rfl) (by simp only [maxLen]; omega) (by omega) hbase
  unfold Oper.wp execOp
  simp only [ho, resolve, invoke, builtin, Sem.run_bind, Sem.run_pure, Result.andThen_ok, List.map_toArray, List.map_cons, List.map_nil, hs, hx, hr]
  exact h v1 w1 hown1 hg hat
end

/-- A row of n small numbers of the call's own, from base on. -/
def Row (w : World) (base n : Nat) (v : Value) : Prop := ∃ xs : List Int, xs.length = n ∧ (∀ x ∈ xs, 0 ≤ x ∧ x ≤ 10) ∧ w.ownsRow base 3 1 v n (encs (Value.int .i64) xs)
/-- m small numbers that are read at A. -/
def Src (w : World) (A : Option Addr) (m : Nat) : Prop := ∃ ys : List Int, ys.length = m ∧ (∀ x ∈ ys, 0 ≤ x ∧ x ≤ 10) ∧ Kd.C (Kd.int .i64) w A m ys
/-- A block of one small number. -/
def One (w : World) (k : Nat) : Prop := ∃ (x : Int) (t : Nat), 0 ≤ x ∧ x ≤ 10 ∧ w.heap[k]? = some (.cells #[.int .i64 x] t (0, 0))
/-- A region's state: what it has made lies behind W0; a row, and perhaps a block of one number. -/
def Inv (W0 W : World) (v : Value) (n : Nat) (B : Option Nat) : Prop := Below W0.heap.size W0 W ∧ Row W W0.heap.size n v ∧ ∀ k, B = some k → some k ≠ v.ownBlock ∧ One W k

theorem One.src {w : World} {k : Nat} (h : One w k) : Src w (some ⟨k, 0, none⟩) 1 := by
  obtain ⟨x, t, h0, h1, hh⟩ := h
  refine ⟨[x], rfl, by simpa using ⟨h0, h1⟩, ?_⟩
  refine ⟨rfl, by omega, fun _ => ⟨⟨k, 0, none⟩, rfl, fun j p hj => ?_⟩⟩
  have hl := (List.getElem?_eq_some_iff.1 hj).1
  obtain rfl : j = 0 := by simpa using hl
  obtain rfl : x = p := by simpa using hj
  refine ⟨[.int .i64 x], rfl, (rfl : [Value.int .i64 x] = [Value.int .i64 x]), ?_⟩
  intro i u hi
  have hl2 := (List.getElem?_eq_some_iff.1 hi).1
  obtain rfl : i = 0 := by simpa using hl2
  obtain rfl : Value.int .i64 x = u := by simpa using hi
  simp [World.cell?, Addr.add, hh]
theorem One.lt {w : World} {k : Nat} (h : One w k) : k < w.heap.size := by
  obtain ⟨x, t, _, _, hh⟩ := h
  exact (Array.getElem?_eq_some_iff.1 hh).1
theorem inv_E {W0 W : World} (hB : Below W0.heap.size W0 W) (t : Nat) (ht : t = 3) : Inv W0 (W.alloc (.cells #[] t)) (.slice (some ⟨W.heap.size, 0, none⟩) 0 0) 0 none := by
  subst ht
  refine ⟨hB.alloc hB.size _, ⟨[], rfl, by simp, ?_⟩, fun k hk => by cases hk⟩
  exact World.ownsRow_made (size := 1) W #[] 0 hB.size (by unfold maxLen; omega) rfl
theorem Inv.alloc_one {W0 W : World} {v : Value} {n : Nat} {B : Option Nat} (h : Inv W0 W v n B) (x : Int) (h0 : 0 ≤ x) (h1 : x ≤ 10) (t : Nat) : Inv W0 (W.alloc (.cells #[.int .i64 x] t)) v n (some W.heap.size) := by
  obtain ⟨hb, ⟨xs, h2, h3, ho⟩, _⟩ := h
  refine ⟨hb.alloc hb.size _, ⟨xs, h2, h3, ho.alloc _⟩, fun k hk => ?_⟩
  obtain rfl : W.heap.size = k := by injection hk
  refine ⟨fun e => ?_, x, t, h0, h1, heap_alloc_new W _⟩
  have := (ho.lt _ e.symm).2
  omega
theorem Inv.drew {W0 W : World} {v : Value} {n : Nat} {B : Option Nat} (h : Inv W0 W v n B) : Inv W0 W.drew v n B := ⟨h.1.drew, h.2.1, h.2.2⟩
theorem inv_BE {W0 W : World} (hB : Below W0.heap.size W0 W) (x : Int) (h0 : 0 ≤ x) (h1 : x ≤ 10) (t s : Nat) (ht : t = 3) (g : Nat) (hg : g = W.heap.size + 1) :
    Inv W0 ((W.alloc (.cells #[.int .i64 x] s)).alloc (.cells #[] t)) (.slice (some ⟨g, 0, none⟩) 0 0) 0 (some W.heap.size) := by
  subst ht hg
  have hB1 := hB.alloc hB.size (.cells #[.int .i64 x] s)
  have h := inv_E hB1 3 rfl
  have hz : (W.alloc (.cells #[.int .i64 x] s)).heap.size = W.heap.size + 1 := by simp
  rw [hz] at h
  refine ⟨h.1, h.2.1, fun k hk => ?_⟩
  obtain rfl : W.heap.size = k := by injection hk
  refine ⟨by simp [Value.ownBlock], x, s, h0, h1, ?_⟩
  rw [Below.heap_alloc _ _ _ (by simp)]
  exact heap_alloc_new W _

section
variable {P : Program} {ops : Array Oper} {o : Oper} {a : Act} {K : Act → World → Prop} {Q : Exit → Act → World → Prop}
/-- An append of m small numbers to the row, at a step of a region that draws its order. -/
theorem step_app {W0 W : World} (hw : Region.wanted o (yielded ops a.tmps) = true) (s x : Operand) (t : TypeId)
    (ho : o.op = .call { callee := .builtin .append, args := #[s, x], argTypes := #[t, t] })
    (ht : P.underlying t = some (.slice 3)) (hinfo : (P.info? 3).map (fun i => (i.zero, i.size, i.bytes)) = some (some (.int .i64 0), 1, 8))
    (v : Value) (n : Nat) (B : Option Nat) (ad : Addr) (m c : Nat) (hs : a.eval s = v) (hx : a.eval x = .slice (some ad) m c)
    (hI : Inv W0 W v n B) (hS : Src W (some ad) m) (hl : n + m ≤ 1000)
    (h : ∀ v1 w1, Inv W0 w1 v1 (n + m) B → K (a.put o.dst v1) w1) :
    if Region.wanted o (yielded ops a.tmps) = true then Oper.wp P o a W K Q else K (a.put o.dst undef) W := by
  obtain ⟨hb, ⟨xs, h2, h3, hown⟩, hk⟩ := hI
  obtain ⟨ys, h4, h5, hC⟩ := hS
  refine step_append_ints (Q := Q) W0.heap.size hw s x t 3 ho ht hinfo v n _ ad m c ys hs hx hown h4 hC hb.size hl ?_
  intro v1 w1 ho1 hg hat
  refine h v1 w1 ⟨hb.grown hg hb.size (fun k e => (hown.lt k e).1), ⟨xs ++ ys, by rw [List.length_append, h2, h4], ?_, by simpa [encs] using ho1⟩, fun k e => ?_⟩
  · intro y hy
    rcases List.mem_append.1 hy with hy | hy
    · exact h3 y hy
    · exact h5 y hy
  · obtain ⟨e1, x1, t1, hx0, hx1, hh⟩ := hk k e
    have hlt : k < W.heap.size := One.lt ⟨x1, t1, hx0, hx1, hh⟩
    refine ⟨?_, x1, t1, hx0, hx1, ?_⟩
    · rcases hat with hat | hat
      · rw [hat]; exact e1
      · rw [hat]; intro e2; injection e2 with e2; omega
    · rw [hg.block k hlt e1, hh]
end
end Go.Proofs.Ytlhbdeebkkpkmaa
