/- Program-independent laws for the walks of this seat: a region that draws its order and ends in one call, inside a round or an iterator. Conditions: none beyond those in the statements. -/
import Derived.StillTailTactics
import Derived.OrdersIn
import Derived.TacticsIn
import Derived.RangeFuncCalls
import Derived.OwnWalkIn
import Derived.RangeFuncNested
import Derived.Deep.Draws
import Derived.Shelf.Abstract
namespace Go.Proofs.Ytbpppchkgjcahaa
set_option linter.unusedVariables false
open Go.RowKit
def Wide (F : Fence) : Prop := F = Fence.wide ∨ ∃ l, F = Fence.wide.inRound l
theorem Wide.wide : Wide Fence.wide := .inl rfl
theorem Wide.round (l : Nat) : Wide (Fence.wide.inRound l) := .inr ⟨l, rfl⟩
theorem Wide.fn {F : Fence} (h : Wide F) (f : FuncId) : F.fn f := by rcases h with rfl | ⟨l, rfl⟩ <;> trivial
theorem Wide.depth {F : Fence} (h : Wide F) {k : Nat} : F.depth.isSome = true → 1 ≤ k := by rcases h with rfl | ⟨l, rfl⟩ <;> (intro h; cases h)
theorem Wide.calls {F : Fence} {n : Nat} {P : Program} {f : FuncId} {args : Array Value} {w : World} {R : Ending → World → Prop} (h : Wide F) (c : Calls P f args w R) : CallsIn F n P f args w R := by
  rcases h with rfl | ⟨l, rfl⟩
  · exact callsIn_wide.2 c
  · exact (callsIn_wide.2 c).inRound l
section
variable {F : Fence} {n : Nat} {P : Program} {ops : Array Oper} {md : Region.Mode} {w : World}
end
theorem wp_still_tail {P : Program} {id : Nat} {Q : Exit → Act → World → Prop} {a : Act} {w : World} {l : List Oper} (n0 : Nat) (hm : P.follows .mixedOrders = true) (hB : Region.lexTailB .any l.toArray n0 = true)
    (h : wpStill P l.toArray (w.drewN 1) (fun a' => wpList P l.toArray Q (l.drop n0) a' (w.drewN 1)) (l.take n0) a) : (Code.region id l.toArray true).wp P Q a w := wp_region_still_tail n0 hm hB h
theorem below_putObj {B : Nat} (Z : World) (l : Nat) (o : Obj) (h : B ≤ l) : Below B Z (Z.putObj l o) :=
  ⟨rfl, rfl, rfl, by simp, fun k hk => World.putObj_heap_other (by omega)⟩
structure Cel (A B : World) : Prop where
  size : A.heap.size ≤ B.heap.size
  same : ∀ (k : Nat) (o : Obj), A.heap[k]? = some o → o.isCells = true → B.heap[k]? = some o
theorem Cel.refl (A : World) : Cel A A := ⟨Nat.le_refl _, fun _ _ h _ => h⟩
theorem Cel.trans {A B C : World} (h : Cel A B) (k : Cel B C) : Cel A C := ⟨Nat.le_trans h.size k.size, fun i o hi ho => k.same i o (h.same i o hi ho) ho⟩
theorem Cel.block {A B : World} (h : Cel A B) {a : Addr} {v : Value} (hc : A.cell? a = some v) : B.heap[a.block]? = A.heap[a.block]? := by
  obtain ⟨o, ho, hk⟩ := cells_of_cell hc
  rw [ho]; exact h.same _ _ ho hk
theorem Cel.cell {A B : World} (h : Cel A B) {a : Addr} {v : Value} (hc : A.cell? a = some v) : B.cell? a = some v := (World.cell?_of_block (h.block hc)).trans hc
theorem Cel.frozen {A B : World} (h : Cel A B) {a : Addr} {v : Value} (hc : A.cell? a = some v) : B.frozen? a = A.frozen? a := World.frozen?_of_block (h.block hc)
theorem Cel.boxed {A B : World} (h : Cel A B) {b : Nat} {t : TypeId} {v : Value} (hb : Boxed A b t v) : Boxed B b t v := h.same _ _ hb rfl
theorem Cel.alloc (A : World) (o : Obj) : Cel A (A.alloc o) := ⟨by simp, fun k o' hk _ => (Below.heap_alloc A o k (Array.getElem?_eq_some_iff.1 hk).1).trans hk⟩
theorem Cel.putObj {A : World} {l : Nat} {o : Obj} (o' : Obj) (hl : A.heap[l]? = some o) (ho : o.isCells = false) : Cel A (A.putObj l o') :=
  ⟨by simp, fun k o2 hk h2 => by
    by_cases e : k = l
    · subst e; rw [hl] at hk; cases hk; rw [ho] at h2; cases h2
    · exact (World.putObj_heap_other e).trans hk⟩
theorem Cel.of_grown {A B : World} (h : A.grownBy B none) : Cel A B := ⟨h.size, fun k o hk _ => (h.block k (Array.getElem?_eq_some_iff.1 hk).1 (by simp)).trans hk⟩
theorem Cel.of_below {A B : World} (h : Below A.heap.size A B) : Cel A B := ⟨h.size, fun k o hk _ => (h.block k (Array.getElem?_eq_some_iff.1 hk).1).trans hk⟩
theorem Cel.row {A B : World} (h : Cel A B) {base : Nat} {e : TypeId} {size : Nat} {v : Value} {n : Nat} {xs : List Value} (hr : A.ownsRow base e size v n xs) : B.ownsRow base e size v n xs := by
  obtain ⟨h1, h2⟩ := hr
  refine ⟨h1, ?_⟩
  rcases h2 with h2 | ⟨g, cap, cur, rfl, hg, hh, r⟩
  · exact .inl h2
  · exact .inr ⟨g, cap, cur, rfl, hg, h.same _ _ hh rfl, r⟩
structure KeepM (n₀ : Nat) (M : Nat → Prop) (A B : World) : Prop where
  os : B.os = A.os
  tape : B.tape = A.tape
  output : B.output = A.output
  size : A.heap.size ≤ B.heap.size
  block : ∀ k, k < n₀ → ¬ M k → B.heap[k]? = A.heap[k]?
theorem KeepM.refl (n₀ : Nat) (M : Nat → Prop) (A : World) : KeepM n₀ M A A := ⟨rfl, rfl, rfl, Nat.le_refl _, fun _ _ _ => rfl⟩
theorem KeepM.trans {n₀ : Nat} {M : Nat → Prop} {A B C : World} (h : KeepM n₀ M A B) (k : KeepM n₀ M B C) : KeepM n₀ M A C :=
  ⟨k.os.trans h.os, k.tape.trans h.tape, k.output.trans h.output, Nat.le_trans h.size k.size, fun i hi hm => (k.block i hi hm).trans (h.block i hi hm)⟩
theorem KeepM.of_below {n₀ : Nat} {M : Nat → Prop} {A B : World} (h : Below n₀ A B) : KeepM n₀ M A B := ⟨h.os, h.tape, h.output, h.size, fun k hk _ => h.block k hk⟩
theorem KeepM.below {n₀ m : Nat} {M : Nat → Prop} {A B : World} (h : KeepM n₀ M A B) (hm : ∀ k, M k → m ≤ k) (hn : m ≤ n₀) : Below m A B :=
  ⟨h.os, h.tape, h.output, h.size, fun k hk => h.block k (by omega) (fun hM => by have := hm k hM; omega)⟩
theorem KeepM.mono {n₀ n₁ : Nat} {M : Nat → Prop} {A B : World} (h : KeepM n₀ M A B) (hn : n₁ ≤ n₀) : KeepM n₁ M A B := ⟨h.os, h.tape, h.output, h.size, fun k hk hm => h.block k (by omega) hm⟩
theorem KeepM.cell {n₀ : Nat} {M : Nat → Prop} {A B : World} (h : KeepM n₀ M A B) {a : Addr} (ha : a.block < n₀) (hM : ¬ M a.block) : B.cell? a = A.cell? a := World.cell?_of_block (h.block _ ha hM)
theorem KeepM.grown {n₀ : Nat} {M : Nat → Prop} {A B C : World} (h : KeepM n₀ M A B) (hg : B.grownBy C none) (hn : n₀ ≤ B.heap.size) : KeepM n₀ M A C :=
  h.trans ⟨hg.os, hg.tape, hg.output, hg.size, fun k hk _ => hg.block k (by omega) (by simp)⟩
structure Rd (n₀ : Nat) (M : Nat → Prop) (A B : World) : Prop where
  keep : KeepM n₀ M A B
  others : KeepsFrom n₀ A B
theorem Rd.refl (n₀ : Nat) (M : Nat → Prop) (A : World) : Rd n₀ M A A := ⟨KeepM.refl _ _ _, KeepsFrom.refl _ _⟩
theorem Rd.trans {n₀ : Nat} {M : Nat → Prop} {A B C : World} (h : Rd n₀ M A B) (k : Rd n₀ M B C) : Rd n₀ M A C := ⟨h.keep.trans k.keep, h.others.trans k.others⟩
theorem Rd.size {n₀ : Nat} {M : Nat → Prop} {A B : World} (h : Rd n₀ M A B) : A.heap.size ≤ B.heap.size := h.keep.size
theorem Rd.alloc {n₀ : Nat} {M : Nat → Prop} {A B : World} (h : Rd n₀ M A B) (hn : n₀ ≤ A.heap.size) (o : Obj) : Rd n₀ M A (B.alloc o) :=
  h.trans ⟨.of_below ((Below.refl _ _).alloc (Nat.le_trans hn h.size) o), (KeepsOthers.alloc _ _).from _⟩
theorem Rd.setCell {n₀ : Nat} {M : Nat → Prop} {A B : World} (h : Rd n₀ M A B) {p : Addr} (hp : n₀ ≤ p.block ∨ M p.block) (v : Value) : Rd n₀ M A (B.setCell p v) :=
  h.trans ⟨⟨rfl, rfl, rfl, by simp [World.setCell], fun k hk hm => Below.heap_setCell _ _ _ _ (fun e => by subst e; rcases hp with hp | hp; (· omega); exact hm hp)⟩, (KeepsOthers.setCell _ _ _).from _⟩
theorem Rd.drew {n₀ : Nat} {M : Nat → Prop} {A B : World} (h : Rd n₀ M A B) : Rd n₀ M A B.drew := h.trans ⟨.of_below ((Below.refl _ _).drew), (KeepsOthers.drew _).from _⟩
theorem Rd.drewN {n₀ : Nat} {M : Nat → Prop} {A B : World} (h : Rd n₀ M A B) (m : Nat) : Rd n₀ M A (B.drewN m) := h.trans ⟨⟨rfl, rfl, rfl, Nat.le_refl _, fun _ _ _ => rfl⟩, ⟨Nat.le_refl _, fun _ _ _ h _ => h⟩⟩
theorem Rd.call {n₀ : Nat} {M : Nat → Prop} {A B C : World} (h : Rd n₀ M A B) (hn : n₀ ≤ A.heap.size) (hb : Below B.heap.size B C) : Rd n₀ M A C :=
  h.trans ⟨.of_below (hb.mono (Nat.le_trans hn h.size)), ⟨hb.size, fun k o _ hk _ => (hb.block k (Array.getElem?_eq_some_iff.1 hk).1).trans hk⟩⟩
theorem Rd.grown {n₀ : Nat} {M : Nat → Prop} {A B C : World} (h : Rd n₀ M A B) {row : Option Nat} (hg : B.grownBy C row) (hn : n₀ ≤ A.heap.size) (hr : ∀ k, row = some k → (n₀ ≤ k ∨ M k) ∧ ∀ o, B.heap[k]? = some o → o.isCells = true) : Rd n₀ M A C :=
  h.trans ⟨⟨hg.os, hg.tape, hg.output, hg.size, fun k hk hm => hg.block k (Nat.lt_of_lt_of_le hk (Nat.le_trans hn h.size)) (fun e => by rcases (hr k e.symm).1 with h1 | h1; (· omega); exact hm h1)⟩, (KeepsOthers.of_grownBy hg (fun j o e ho => (hr j e).2 o ho)).from _⟩
def roundP {α : Type} (n₀ : Nat) (M : Nat → Prop) (I Ix : List α → World → Prop) (xs : List α) (W : World) : Exit → Act → World → Prop
  | .normal, _, W' => Rd n₀ M W W' ∧ I xs W'
  | .ret, _, W' => Rd n₀ M W W' ∧ Ix xs W'
  | _, _, _ => False
def IterRO (P : Program) (gf : Nat) (lb : Array Value) {α : Type} (encs : α → Array Value) (xs : List α) (M : Nat → Prop) (w : World) : Prop :=
  ∀ (l : Nat) (J Jx : List α → World → Prop) (W : World), Below w.heap.size w W →
    (∀ s A B, J s A → A.grownBy B none → J s B) →
    (∀ pre x W1, J pre W1 → pre ++ [x] <+: xs → YieldAt Fence.wide 0 P l (encs x) W1 fun e W' =>
      (e = .returned (.bool true) ∧ J (pre ++ [x]) W' ∧ KeepM w.heap.size M W1 W') ∨ (e = .returned (.bool false) ∧ Jx (pre ++ [x]) W')) →
    J [] W →
    CallsIn Fence.wide 0 P gf (#[.func (.yield l) #[] #[]] ++ lb) W fun e W' => (∃ v, e = .returned v) ∧ (J xs W' ∨ ∃ pre, pre <+: xs ∧ Jx pre W')
theorem wp_range_ro {P : Program} {α : Type} {g : Operand} {ps : Array Tmp} {assign body : Code} {Q : Exit → Act → World → Prop} {a : Act} {w : World}
    {gf : Nat} {lb : Array Value} (hg : a.eval g = .func (.func gf) #[] lb) (eg : ∀ args w, (callFunc gf args).run P w = .ok (.enter gf args) w)
    {encs : α → Array Value} {xs : List α} {w0 : World} {M : Nat → Prop} (it : IterRO P gf lb encs xs M w0) (hb0 : Below w0.heap.size w0 w) (hps : ∀ x, (encs x).size = ps.size)
    (I Ix : List α → World → Prop) (hI : ∀ s A B, I s A → Cel A B → I s B) (hIx : ∀ s A B, Ix s A → Cel A B → Ix s B) (h0 : I [] w)
    (hround : ∀ (l : Nat) (pre : List α) (x : α) (W : World), pre ++ [x] <+: xs → I pre W → KeepM w.heap.size M w W →
      assign.wpIn (Fence.wide.inRound l) 0 P (Exit.then (fun a1 W1 => Rd w.heap.size M W W1 ∧ ∀ W2, Cel W1 W2 → KeepM w.heap.size M w W2 → body.wpIn (Fence.wide.inRound l) 0 P (roundP w.heap.size M I Ix (pre ++ [x]) W2) a1 W2) (fun _ _ _ => False)) { tmps := (ps.zip (encs x)).foldl (fun t (p, v) => t.setIfInBounds p v) a.tmps, defers := [] } W)
    (hdone : ∀ (D : Nat) (W : World), w.heap.size ≤ D → KeepM w.heap.size M w W → I xs W → W.heap[D]? = some (.deferred (some [])) → Q .normal { a with defers := { target := .collected D, args := #[] } :: a.defers } W)
    (hstop : ∀ (D : Nat) (pre : List α) (W : World), w.heap.size ≤ D → KeepM w.heap.size M w W → pre <+: xs → Ix pre W → W.heap[D]? = some (.deferred (some [])) → Q .ret { a with defers := { target := .collected D, args := #[] } :: a.defers } W) :
    (Code.rangeFunc g ps assign body).wp P Q a w := by
  refine (wpIn_wide (n := 0)).1 ?_
  refine wpIn_rangeFunc ?_
  intro fn hfn
  obtain ⟨rec, hrec⟩ : ∃ rec : LoopState → Option Code → Loop, rec = fun st pe => { state := st, pending := pe, fn, tmps := a.tmps, params := ps, assign, body, defers := w.heap.size } := ⟨_, rfl⟩
  obtain ⟨W1, hW1⟩ : ∃ W1, (w.alloc (.deferred (some []))).alloc (.loop (rec .ready none)) = W1 := ⟨_, rfl⟩
  have hL1 : W1.heap[w.heap.size + 1]? = some (.loop (rec .ready none)) := by
    rw [← hW1]; have := World.alloc_heap_new (w.alloc (.deferred (some []))) (.loop (rec .ready none)); rwa [World.size_alloc] at this
  have hK1 : W1.heap[w.heap.size]? = some (.deferred (some [])) := by
    rw [← hW1]; exact (Below.heap_alloc _ _ _ (by simp)).trans (World.alloc_heap_new w _)
  have hI1 : I [] W1 := by rw [← hW1]; exact hI _ _ _ (hI _ _ _ h0 (Cel.alloc _ _)) (Cel.alloc _ _)
  have hbw : Below w.heap.size w W1 := by
    rw [← hW1]; exact ((Below.refl _ w).alloc (Nat.le_refl _) _).alloc (by simp) _
  have hb1 : Below w0.heap.size w0 W1 := hb0.trans (hbw.mono hb0.size)
  refine ⟨w.heap.size + 1, [{ target := .collected w.heap.size, args := #[] }], W1, { target := .fn (.func gf) lb, args := #[.func (.yield (w.heap.size + 1)) #[] #[]] }, W1, gf,
    #[.func (.yield (w.heap.size + 1)) #[] #[]] ++ lb, W1, ?_, ?_, ?_, ?_, (fun h => by cases h), ?_⟩
  · rw [← hW1, hrec]; exact run_enterLoop_outer _ _ _ _ _
  · simp only [resolve, hg]
    simp [go_sem]
  · intro f' _; trivial
  · simp [invoke, go_sem, eg]
  · refine (it (w.heap.size + 1)
      (fun pre W => I pre W ∧ KeepM w.heap.size M w W ∧ W.heap[w.heap.size + 1]? = some (.loop (rec .ready none)) ∧ W.heap[w.heap.size]? = some (.deferred (some [])))
      (fun pre W => Ix pre W ∧ KeepM w.heap.size M w W ∧ W.heap[w.heap.size + 1]? = some (.loop (rec .done (some .ret))) ∧ W.heap[w.heap.size]? = some (.deferred (some [])))
      W1 hb1 ?_ ?_ ⟨hI1, .of_below hbw, hL1, hK1⟩).mono ?_
    · rintro s A B ⟨hi, hb, hl, hk⟩ hg'
      exact ⟨hI _ _ _ hi (Cel.of_grown hg'), hb.grown hg' hb.size, (hg'.block _ (Array.getElem?_eq_some_iff.1 hl).1 (by simp)).trans hl, (hg'.block _ (Array.getElem?_eq_some_iff.1 hk).1 (by simp)).trans hk⟩
    · rintro pre x W ⟨hi, hb, hl, hk⟩ hpre
      have hy := run_yield (P := P) (args := encs x) hl (by rw [hrec]; exact hps x)
      rw [hrec] at hy
      refine ⟨fn, _, assign, body, hy, roundIn_of_wpIn trivial ?_⟩
      refine wpIn_mono (hround (w.heap.size + 1) pre x W hpre hi hb) ?_
      intro e a1 Wa hp
      cases e with
      | normal =>
        obtain ⟨hrd, hbody⟩ := hp
        have hl2 := hrd.others.same _ _ (by omega) hl rfl
        have hk2 := hrd.others.same _ _ (Nat.le_refl _) hk rfl
        refine ⟨_, run_beginRound hl2 (by rw [hrec]), ?_⟩
        have hlt : w.heap.size + 1 < Wa.heap.size := (Array.getElem?_eq_some_iff.1 hl2).1
        have hl3 : (Wa.putObj (w.heap.size + 1) (.loop { rec .ready none with state := .busy })).heap[w.heap.size + 1]? = some (.loop { rec .ready none with state := .busy }) := World.putObj_heap_same hlt
        have hk3 : (Wa.putObj (w.heap.size + 1) (.loop { rec .ready none with state := .busy })).heap[w.heap.size]? = some (.deferred (some [])) := (World.putObj_heap_other (by omega)).trans hk2
        have hbe : ∀ (Z : World) (o : Obj), KeepM w.heap.size M Z (Z.putObj (w.heap.size + 1) o) := fun Z o => .of_below (below_putObj Z _ o (by omega))
        refine wpIn_mono (hbody _ (Cel.putObj _ hl2 rfl) ((hb.trans hrd.keep).trans (hbe _ _))) ?_
        have fin : ∀ (jump : Option Code) (W3 : World), Rd w.heap.size M (Wa.putObj (w.heap.size + 1) (.loop { rec .ready none with state := .busy })) W3 →
            (Instr.endRound (w.heap.size + 1) jump).run P W3 = .ok (.bool jump.isNone) (W3.putObj (w.heap.size + 1) (.loop (rec (if jump.isNone then .ready else .done) jump))) ∧
            W3.heap[w.heap.size + 1]? = some (.loop { rec .ready none with state := .busy }) ∧
            (W3.putObj (w.heap.size + 1) (.loop (rec (if jump.isNone then .ready else .done) jump))).heap[w.heap.size + 1]? = some (.loop (rec (if jump.isNone then .ready else .done) jump)) ∧
            (W3.putObj (w.heap.size + 1) (.loop (rec (if jump.isNone then .ready else .done) jump))).heap[w.heap.size]? = some (.deferred (some [])) := fun jump W3 hk3' => by
          have hl4 := hk3'.others.same _ _ (by omega) hl3 rfl
          have := run_endRound (P := P) jump hl4
          rw [hrec] at this ⊢
          exact ⟨this, by rw [hrec] at hl4; exact hl4, World.putObj_heap_same (Array.getElem?_eq_some_iff.1 hl4).1, (World.putObj_heap_other (by omega)).trans (hk3'.others.same _ _ (Nat.le_refl _) hk3 rfl)⟩
        have hn0 : w0.heap.size ≤ w.heap.size := hb0.size
        rintro e a3 W3 hp
        cases e with
        | normal =>
          obtain ⟨hrd3, hi3⟩ := hp
          obtain ⟨hr, hl5, hl6, hk6⟩ := fin none W3 hrd3
          refine ⟨_, _, hr, .inl ⟨rfl, ⟨hI _ _ _ hi3 (Cel.putObj _ hl5 rfl), ?_, hl6, hk6⟩, ?_⟩⟩
          · exact (((hb.trans hrd.keep).trans (hbe _ _)).trans hrd3.keep).trans (hbe _ _)
          · exact (((hrd.keep.trans (hbe _ _)).trans hrd3.keep).trans (hbe _ _)).mono hn0
        | ret =>
          obtain ⟨hrd3, hi3⟩ := hp
          obtain ⟨hr, hl5, hl6, hk6⟩ := fin (some .ret) W3 hrd3
          exact ⟨_, _, hr, .inr ⟨rfl, hIx _ _ _ hi3 (Cel.putObj _ hl5 rfl), (((hb.trans hrd.keep).trans (hbe _ _)).trans hrd3.keep).trans (hbe _ _), hl6, hk6⟩⟩
        | exit id => exact hp.elim
        | goto t => exact hp.elim
        | panic ch => exact hp.elim
        | outgrown => exact hp.elim
      | exit id => exact hp.elim
      | goto t => exact hp.elim
      | ret => exact hp.elim
      | panic ch => exact hp.elim
      | outgrown => exact hp.elim
    · have hbe : ∀ (Z : World) (o : Obj), KeepM w.heap.size M Z (Z.putObj (w.heap.size + 1) o) := fun Z o => .of_below (below_putObj Z _ o (by omega))
      rintro e W2 ⟨⟨v, rfl⟩, (⟨hi, hb, hl, hk⟩ | ⟨pre, hpre, hi, hb, hl, hk⟩)⟩
      · exact ⟨none, _, by have := run_endLoop (P := P) hl (by rw [hrec]; simp); rw [hrec] at this; exact this, hdone _ _ (Nat.le_refl _) (hb.trans (hbe _ _)) (hI _ _ _ hi (Cel.putObj _ hl rfl)) ((World.putObj_heap_other (by omega)).trans hk)⟩
      · exact ⟨some .ret, _, by have := run_endLoop (P := P) hl (by rw [hrec]; simp); rw [hrec] at this; exact this, wpIn_ret (hstop _ pre _ (Nat.le_refl _) (hb.trans (hbe _ _)) hpre (hIx _ _ _ hi (Cel.putObj _ hl rfl)) ((World.putObj_heap_other (by omega)).trans hk))⟩
theorem calls_of_wp_marks {P : Program} {f : FuncId} {fn : Func} {c : Code} {args : Array Value} {w : World} {R : Ending → World → Prop}
    (hf : P.funcs[f]? = some fn) (hb : fn.body = some c)
    (h : c.wp P (bodyPostM Fence.wide 0 P fn R) { tmps := args ++ Array.replicate (fn.ntmps - args.size) undef, defers := [] } w) : Calls P f args w R :=
  callsIn_wide.1 (callsIn_of_wp_marks (n := 0) hf hb trivial (wpIn_wide.2 h))
theorem ret_mark {P : Program} {fn : Func} {R : Ending → World → Prop} {D : Nat} {tmps : Array Value} {W : World} (hK : W.heap[D]? = some (.deferred (some [])))
    (h : ∀ W', Cel W W' → (∀ n₀, n₀ ≤ D → Below n₀ W W') → ∃ v, (results fn tmps).run P W' = .ok v W' ∧ R (.returned v) W') :
    bodyPostM Fence.wide 0 P fn R .ret { tmps, defers := [{ target := .collected D, args := #[] }] } W := by
  refine ⟨by simp, .inl ⟨_, _, rfl, run_takeDeferred hK, ?_⟩⟩
  exact h _ (Cel.putObj _ hK rfl) (fun n₀ hn => below_putObj W D _ hn)
end Go.Proofs.Ytbpppchkgjcahaa
