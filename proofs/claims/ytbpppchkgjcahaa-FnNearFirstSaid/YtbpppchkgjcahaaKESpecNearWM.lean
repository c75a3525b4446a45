/- Texts of this claim's, joined by a program: ESpecNearW, EPlanTurn, EListOwn, ECutStuckS, ECutStuck, EStuckBy, EWaysP, EHered, ETile, ERemade, EFarP, EColoured, EColours2, ESpecFirst. -/
import Derived.Test.YtbpppchkgjcahaaKESpecNearM
import Derived.Test.YtbpppchkgjcahaaKECodeRowM
import Derived.Test.YtbpppchkgjcahaaKEFloorRM
import Derived.Test.YtbpppchkgjcahaaKEColour
import Derived.Laws.Cover3
section
namespace Go.Proofs.Ytbpppchkgjcahaa
open Go.RowKit Go.Shelf Go.Proofs.YtbpppchkgjcahaaW.PrintWords Go.Proofs.YtbpppchkgjcahaaW.PrintMore
set_option linter.unusedVariables false
set_option linter.unusedSimpArgs false
theorem fold_max (m : Int) : ∀ (L : List Int), L.foldl max m = max m (L.foldl max m) := by
  intro L
  induction L generalizing m with
  | nil => show m = max m m; omega
  | cons x L ih =>
    rw [List.foldl_cons]
    have := ih (max m x)
    omega
end Go.Proofs.Ytbpppchkgjcahaa
end
section
namespace Go.Proofs.Ytbpppchkgjcahaa
open Go.RowKit Go.Shelf Go.Proofs.YtbpppchkgjcahaaW.PrintWords Go.Proofs.YtbpppchkgjcahaaW.PrintMore
set_option linter.unusedVariables false
set_option linter.unusedSimpArgs false
end Go.Proofs.Ytbpppchkgjcahaa
end
section
namespace Go.Proofs.Ytbpppchkgjcahaa
open Go.RowKit Go.Shelf Go.Proofs.YtbpppchkgjcahaaW.PrintWords Go.Proofs.YtbpppchkgjcahaaW.PrintMore
set_option linter.unusedVariables false
end Go.Proofs.Ytbpppchkgjcahaa
end
section
namespace Go.Proofs.Ytbpppchkgjcahaa
open Go.RowKit Go.Shelf Go.Proofs.YtbpppchkgjcahaaW.PrintWords Go.Proofs.YtbpppchkgjcahaaW.PrintMore
set_option linter.unusedVariables false
set_option linter.unusedSimpArgs false
end Go.Proofs.Ytbpppchkgjcahaa
end
section
namespace Go.Proofs.Ytbpppchkgjcahaa
open Go.RowKit Go.Shelf Go.Proofs.YtbpppchkgjcahaaW.PrintWords Go.Proofs.YtbpppchkgjcahaaW.PrintMore
set_option linter.unusedVariables false
set_option linter.unusedSimpArgs false
end Go.Proofs.Ytbpppchkgjcahaa
end
section
namespace Go.Proofs.Ytbpppchkgjcahaa
open Go.RowKit Go.Shelf Go.Proofs.YtbpppchkgjcahaaW.PrintWords Go.Proofs.YtbpppchkgjcahaaW.PrintMore
set_option linter.unusedVariables false
set_option linter.unusedSimpArgs false
end Go.Proofs.Ytbpppchkgjcahaa
end
section
namespace Go.Proofs.Ytbpppchkgjcahaa
open Go.RowKit Go.Shelf Go.Proofs.YtbpppchkgjcahaaW.PrintWords Go.Proofs.YtbpppchkgjcahaaW.PrintMore
set_option linter.unusedVariables false
end Go.Proofs.Ytbpppchkgjcahaa
end
section
namespace Go.Proofs.Ytbpppchkgjcahaa
open Go.RowKit Go.Shelf Go.Proofs.YtbpppchkgjcahaaW.PrintWords Go.Proofs.YtbpppchkgjcahaaW.PrintMore
set_option linter.unusedVariables false
end Go.Proofs.Ytbpppchkgjcahaa
end
section
namespace Go.Proofs.Ytbpppchkgjcahaa
open Go.RowKit Go.Shelf Go.Proofs.YtbpppchkgjcahaaW.PrintWords Go.Proofs.YtbpppchkgjcahaaW.PrintMore
set_option linter.unusedVariables false
set_option linter.unusedSimpArgs false
section
variable {P Q : Nat → Prop} [DecidablePred P] [DecidablePred Q]
end
end Go.Proofs.Ytbpppchkgjcahaa
end
section
namespace Go.Proofs.Ytbpppchkgjcahaa
open Go.RowKit Go.Shelf Go.Proofs.YtbpppchkgjcahaaW.PrintWords Go.Proofs.YtbpppchkgjcahaaW.PrintMore
set_option linter.unusedVariables false
set_option linter.unusedSimpArgs false
section
variable {h wd : Nat} {val : Nat → Nat → Int}
end
section
variable {cl : Nat → Nat → Int} {boxes : List Box} {h wd : Nat} (F : Flat cl boxes h wd) {f : Nat → Int} (hf : ∀ i j, i < h → j < wd → f (i * wd + j) = cl i j)
include F hf
end
structure Planned (cl : Nat → Nat → Int) (h wd : Nat) (q : List ByteArray) : Prop where
  plan : planG q = true
  high : q.length = h
  wide : wdP q = wd
  same : ∀ i j i' j', i < h → j < wd → i' < h → j' < wd → (clP q i j = clP q i' j' ↔ cl i j = cl i' j')
end Go.Proofs.Ytbpppchkgjcahaa
end
section
namespace Go.Proofs.Ytbpppchkgjcahaa
open Go.RowKit Go.Shelf Go.Proofs.YtbpppchkgjcahaaW.PrintWords Go.Proofs.YtbpppchkgjcahaaW.PrintMore
set_option linter.unusedVariables false
set_option linter.unusedSimpArgs false
def SameR (p q : List ByteArray) (k m : Nat) : Prop := ∃ i j, i < p.length ∧ j < wdP p ∧ clP p i j = (k : Int) ∧ clP q i (wdP p - 1 - j) = (m : Int)
structure FlipQ (p q : List ByteArray) : Prop where
  plan : planG p = true
  qlan : planG q = true
  high : q.length = p.length
  wide : wdP q = wdP p
  same : ∀ i j i' j', i < p.length → j < wdP p → i' < p.length → j' < wdP p → (clP q i (wdP p - 1 - j) = clP q i' (wdP p - 1 - j') ↔ clP p i j = clP p i' j')
section
variable {p q : List ByteArray}
theorem has_cell (hp : planG p = true) {k : Nat} (hk : k < roomN p) : ∃ i j, i < p.length ∧ j < wdP p ∧ clP p i j = (k : Int) := by
  obtain ⟨a, b, c, d, h1, h2, h3, h4, h5, h6⟩ := (planFlat hp).box k hk
  exact ⟨a, b, by omega, by omega, (h6 a b (by omega) (by omega)).2 ⟨⟨by omega, by omega⟩, ⟨by omega, by omega⟩⟩⟩
theorem SameR.lt (h : FlipQ p q) {k m : Nat} (hs : SameR p q k m) : k < roomN p ∧ m < roomN q := by
  obtain ⟨i, j, h1, h2, h3, h4⟩ := hs
  obtain ⟨k', hk, e⟩ := (planFlat h.plan).num i j h1 h2
  obtain ⟨m', hm, e'⟩ := (planFlat h.qlan).num i (wdP p - 1 - j) (by rw [h.high]; exact h1) (by rw [h.wide]; omega)
  rw [h3] at e
  rw [h4] at e'
  have e1 : k = k' := Int.ofNat.inj e
  have e2 : m = m' := Int.ofNat.inj e'
  subst e1 e2
  exact ⟨hk, hm⟩
theorem SameR.from (h : FlipQ p q) {m : Nat} (hm : m < roomN q) : ∃ k, SameR p q k m := by
  obtain ⟨i, j, h1, h2, h3⟩ := has_cell h.qlan hm
  rw [h.high] at h1
  rw [h.wide] at h2
  obtain ⟨k', hk, e⟩ := (planFlat h.plan).num i (wdP p - 1 - j) h1 (by omega)
  exact ⟨k', i, wdP p - 1 - j, h1, by omega, e, by rw [show wdP p - 1 - (wdP p - 1 - j) = j by omega]; exact h3⟩
theorem SameR.cell (h : FlipQ p q) {k m : Nat} (hs : SameR p q k m) {i j : Nat} (hi : i < p.length) (hj : j < wdP p) : clP p i j = (k : Int) ↔ clP q i (wdP p - 1 - j) = (m : Int) := by
  obtain ⟨i', j', h1, h2, h3, h4⟩ := hs
  rw [← h3, ← h4]
  exact (h.same i j i' j' hi hj h1 h2).symm
theorem SameR.inj (h : FlipQ p q) {k m k' m' : Nat} (hs : SameR p q k m) (hs' : SameR p q k' m') : k = k' ↔ m = m' := by
  obtain ⟨i, j, h1, h2, h3, h4⟩ := hs'
  have := hs.cell h h1 h2
  rw [h3, h4] at this
  constructor
  · intro e; subst e; exact (Int.ofNat.inj (this.1 rfl)).symm
  · intro e; subst e; exact (Int.ofNat.inj (this.2 rfl)).symm
end
theorem maxOf_ge {L : List Int} {j : Nat} (hj : j < L.length) : dAt L j ≤ Lib.maxOf L := by
  have key : ∀ (L : List Int) (m : Int) (j : Nat), j < L.length → L.getD j 0 ≤ L.foldl max m := by
    intro L
    induction L with
    | nil => intro m j h; exact absurd h (by simp)
    | cons x L ih =>
      intro m j h
      rw [List.foldl_cons]
      cases j with
      | zero =>
        have := fold_max (max m x) L
        show x ≤ _
        omega
      | succ j => exact ih (max m x) j (by simpa using h)
  exact key L _ j hj
theorem maxOf_ex {L : List Int} (h : L ≠ []) : ∃ j, j < L.length ∧ Lib.maxOf L = dAt L j := by
  have key : ∀ (L : List Int) (m : Int), L.foldl max m = m ∨ ∃ j, j < L.length ∧ L.foldl max m = dAt L j := by
    intro L
    induction L with
    | nil => intro m; exact .inl rfl
    | cons x L ih =>
      intro m
      rw [List.foldl_cons]
      rcases ih (max m x) with e | ⟨j, hj, e⟩
      · rw [e]
        by_cases c : m ≤ x
        · exact .inr ⟨0, by simp, by show max m x = x; omega⟩
        · exact .inl (by omega)
      · exact .inr ⟨j + 1, by simpa using hj, e⟩
  cases L with
  | nil => exact absurd rfl h
  | cons x L =>
    rcases key (x :: L) x with e | ⟨j, hj, e⟩
    · exact ⟨0, by simp, e⟩
    · exact ⟨j, hj, e⟩
end Go.Proofs.Ytbpppchkgjcahaa
end
section
namespace Go.Proofs.Ytbpppchkgjcahaa
open Go.RowKit Go.Shelf Go.Proofs.YtbpppchkgjcahaaW.PrintWords Go.Proofs.YtbpppchkgjcahaaW.PrintMore
set_option linter.unusedVariables false
set_option linter.unusedSimpArgs false
def natsI (L : List Nat) : List Int := L.map fun x : Nat => (x : Int)
theorem QAt.reads {W : World} {base : Nat} {av : Nat → Prop} {g cap : Nat} {q : List Nat} (h : QAt W base av g 0 cap q) (hl : q.length ≤ 1000) : Kd.C (Kd.int .i64) W (some ⟨g, 0, none⟩) q.length (natsI q) := by
  refine Kd.C_of_reads (d := (0 : Int)) (enc := Value.int .i64) (h1 := fun _ => rfl) ⟨by simp [natsI], by omega, fun h0 => ⟨_, rfl, fun j hj => ?_⟩⟩
  have hj' : j < q.length := by simpa [natsI] using hj
  have hc := h.cell hj'
  rw [Nat.zero_add] at hc
  have e : (natsI q).getD j 0 = ((q[j] : Nat) : Int) := by
    unfold natsI
    rw [List.getD_eq_getElem?_getD, List.getElem?_map, List.getElem?_eq_getElem hj']; rfl
  rw [e]
  by_cases k0 : j = 0
  · subst k0; simpa [Addr.add] using hc
  · simpa [Addr.add, k0] using hc
theorem alloc5 (w : World) (o1 o2 o3 o4 o5 : Obj) : ((((w.alloc o1).alloc o2).alloc o3).alloc o4 |>.alloc o5).heap.size = w.heap.size + 5 ∧
    ((((w.alloc o1).alloc o2).alloc o3).alloc o4 |>.alloc o5).heap[w.heap.size]? = some o1 ∧ ((((w.alloc o1).alloc o2).alloc o3).alloc o4 |>.alloc o5).heap[w.heap.size + 1]? = some o2 ∧
    ((((w.alloc o1).alloc o2).alloc o3).alloc o4 |>.alloc o5).heap[w.heap.size + 2]? = some o3 ∧ ((((w.alloc o1).alloc o2).alloc o3).alloc o4 |>.alloc o5).heap[w.heap.size + 3]? = some o4 ∧
    ((((w.alloc o1).alloc o2).alloc o3).alloc o4 |>.alloc o5).heap[w.heap.size + 4]? = some o5 := by
  have a1 := heap_alloc_new w o1
  have a2 := heap_alloc_new (w.alloc o1) o2
  have a3 := heap_alloc_new ((w.alloc o1).alloc o2) o3
  have a4 := heap_alloc_new (((w.alloc o1).alloc o2).alloc o3) o4
  have a5 := heap_alloc_new ((((w.alloc o1).alloc o2).alloc o3).alloc o4) o5
  have s1 : (w.alloc o1).heap.size = w.heap.size + 1 := by simp
  have s2 : ((w.alloc o1).alloc o2).heap.size = w.heap.size + 2 := by simp
  have s3 : (((w.alloc o1).alloc o2).alloc o3).heap.size = w.heap.size + 3 := by simp
  have s4 : ((((w.alloc o1).alloc o2).alloc o3).alloc o4).heap.size = w.heap.size + 4 := by simp
  have s5 : (((((w.alloc o1).alloc o2).alloc o3).alloc o4).alloc o5).heap.size = w.heap.size + 5 := by simp
  rw [s1] at a2
  rw [s2] at a3
  rw [s3] at a4
  rw [s4] at a5
  refine ⟨s5, ?_, ?_, ?_, ?_, a5⟩
  · rw [Below.heap_alloc _ _ _ (by omega), Below.heap_alloc _ _ _ (by omega), Below.heap_alloc _ _ _ (by omega), Below.heap_alloc _ _ _ (by omega)]; exact a1
  · rw [Below.heap_alloc _ _ _ (by omega), Below.heap_alloc _ _ _ (by omega), Below.heap_alloc _ _ _ (by omega)]; exact a2
  · rw [Below.heap_alloc _ _ _ (by omega), Below.heap_alloc _ _ _ (by omega)]; exact a3
  · rw [Below.heap_alloc _ _ _ (by omega)]; exact a4
set_option maxRecDepth 100000 in
set_option maxHeartbeats 8000000 in
theorem coloured_any (g n : Nat) (rb : Nat → Nat) (T : Nat → Nat → Int) (nb : Nat → Nat → Bool) (hn : 1 ≤ n ∧ n ≤ 9) (hT : ∀ a b, decide (0 < T a b) = nb a b) (many : Nat) (hm : many ≤ 9) (w : World) (hI : IntsW w g n rb T) :
    Calls Try.prog 86 #[.slice (some ⟨g, 0, none⟩) n n, .int .i64 (many : Int)] w fun e w' => ((colS nb n many n [] = none ∧ e = .returned (.slice none 0 0)) ∨ (∃ R qg cap, colS nb n many n [] = some R ∧ e = .returned (.slice (some ⟨qg, 0, none⟩) R.length cap) ∧ R.length ≤ cap ∧ Kd.C (Kd.int .i64) w' (some ⟨qg, 0, none⟩) R.length (natsI R))) ∧ Below w.heap.size w w' := by
  have HNX := Aside0.mk (fun bo bl bm bn => next_any w w.heap.size bo bl bm bn g n many rb T nb hn hm hT (fun W hW => hI.below hW))
  clear hI hT
  go_enter Try.func86, Try.ntmps86
  go_wp2_with fail
  have h5 := alloc5 w (.cells #[.slice (some ⟨g, 0, none⟩) n n] 64) (.cells #[.int .i64 (many : Int)] 3) (.cells #[] 3) (.cells #[.slice (some ⟨w.heap.size + 2, 0, none⟩) 0 0] 34) (.cells #[nextFn (w.heap.size + 3) w.heap.size (w.heap.size + 1) (w.heap.size + 4)] 111)
  have hb5 : Below w.heap.size w (((((w.alloc (.cells #[.slice (some ⟨g, 0, none⟩) n n] 64)).alloc (.cells #[.int .i64 (many : Int)] 3)).alloc (.cells #[] 3)).alloc (.cells #[.slice (some ⟨w.heap.size + 2, 0, none⟩) 0 0] 34)).alloc (.cells #[nextFn (w.heap.size + 3) w.heap.size (w.heap.size + 1) (w.heap.size + 4)] 111)) :=
    (((((Below.refl _ w).alloc (Nat.le_refl _) _).alloc (by simp) _).alloc (by simp; omega) _).alloc (by simp; omega) _).alloc (by simp; omega) _
  obtain ⟨W5, hW5⟩ : ∃ W5, (((((w.alloc (.cells #[.slice (some ⟨g, 0, none⟩) n n] 64)).alloc (.cells #[.int .i64 (many : Int)] 3)).alloc (.cells #[] 3)).alloc (.cells #[.slice (some ⟨w.heap.size + 2, 0, none⟩) 0 0] 34)).alloc (.cells #[nextFn (w.heap.size + 3) w.heap.size (w.heap.size + 1) (w.heap.size + 4)] 111)) = W5 := ⟨_, rfl⟩
  rw [hW5] at h5 hb5
  obtain ⟨z0, z1, z2, z3, z4, z5⟩ := h5
  have HCI : Aside0 (ColI w W5 w.heap.size (w.heap.size + 3) w.heap.size (w.heap.size + 1) (w.heap.size + 4) g n many (fun j => j = w.heap.size ∨ j = w.heap.size + 1 ∨ j = w.heap.size + 3 ∨ j = w.heap.size + 4) (w.heap.size + 2) 0 []) := ⟨⟨hb5, Lib.cell_of_heap z4 0, Lib.frozen_of_heap z4 0, Lib.cell_of_heap z1 0, Lib.cell_of_heap z2 0, Lib.cell_of_heap z5 0, ⟨by omega, by omega, by simp, _, z3, by simp, fun j hj => absurd hj (by simp)⟩, ⟨.inr (.inr (.inl rfl)), .inl rfl, .inr (.inl rfl), .inr (.inr (.inr rfl))⟩, fun j hj => by omega, by omega⟩⟩
  have HCL := Aside0.mk (HNX.out (w.heap.size + 3) w.heap.size (w.heap.size + 1) (w.heap.size + 4) ⟨by omega, by omega, by omega⟩ (by omega) n [] _ W5 _ _ (by simp) (by simp) HCI.out)
  have HFEW : Aside0 (∀ R, colS nb n many n [] = some R → R.length = n) := ⟨fun R h => (colS_good n [] R (by simp) h).len⟩
  unfold nextFn at hW5
  rw [show w.heap.size + 1 + 1 + 1 + 1 = w.heap.size + 4 from rfl, show w.heap.size + 1 + 1 + 1 = w.heap.size + 3 from rfl, show w.heap.size + 1 + 1 = w.heap.size + 2 from rfl, hW5]
  clear hW5 z0 z1 z2 z3 z4 z5 hb5 HNX HCI
  obtain ⟨o, ho⟩ : ∃ o, colS nb n many n [] = o := ⟨_, rfl⟩
  rw [ho] at HCL HFEW
  have HOO := Aside0.mk ho
  clear ho
  refine HCL.out.mono ?_
  rintro e w6 ⟨g6, c6, rfl, hI6, _, _⟩
  have HI6 := Aside0.mk hI6
  clear hI6 HCL
  cases o with
  | none =>
    have HB := Aside0.mk HI6.out.below
    simp only [Option.isSome_none]
    go_wp2_with fail
    go_ret
    exact ⟨.inl ⟨HOO.out, rfl⟩, HB.out⟩
  | some R =>
    have HI7 : Aside0 (ColI w w6 w.heap.size (w.heap.size + 3) w.heap.size (w.heap.size + 1) (w.heap.size + 4) g n many (fun j => j = w.heap.size ∨ j = w.heap.size + 1 ∨ j = w.heap.size + 3 ∨ j = w.heap.size + 4) g6 c6 R) := ⟨HI6.out⟩
    have hlen := HFEW.out R rfl
    have g1 := HI7.out.out
    have HR : Aside0 (R.length ≤ c6 ∧ Kd.C (Kd.int .i64) w6 (some ⟨g6, 0, none⟩) R.length (natsI R)) := ⟨HI7.out.row.fits, HI7.out.row.reads (by omega)⟩
    have HB := Aside0.mk HI7.out.below
    clear HI6 HI7 hlen
    simp only [Option.isSome_some]
    go_wp2_with fail
    go_ret
    exact ⟨.inr ⟨R, g6, c6, HOO.out, rfl, HR.out.1, HR.out.2⟩, HB.out⟩
def IsFirst (nb : Nat → Nat → Bool) (n : Nat) (R : List Nat) : Prop := ∃ m, 1 ≤ m ∧ m ≤ n ∧ colS nb n m n [] = some R ∧ ∀ m', 1 ≤ m' → m' < m → colS nb n m' n [] = none
theorem IsFirst.uniq {nb : Nat → Nat → Bool} {n : Nat} {R R' : List Nat} (h : IsFirst nb n R) (h' : IsFirst nb n R') : R = R' := by
  obtain ⟨m, h1, h2, h3, h4⟩ := h
  obtain ⟨m', k1, k2, k3, k4⟩ := h'
  rcases Nat.lt_trichotomy m m' with c | c | c
  · rw [k4 m h1 c] at h3; cases h3
  · subst c; rw [h3] at k3; exact Option.some.inj k3
  · rw [h4 m' k1 c] at k3; cases k3
def FirstE (w w' : World) (p : List ByteArray) (e : Ending) : Prop := ((planG p = true ∧ ∃ R qg cap, IsFirst (nbP p) (roomN p) R ∧ e = .returned (.tuple #[.slice (some ⟨qg, 0, none⟩) R.length cap, .bool true]) ∧ R.length ≤ cap ∧ Kd.C (Kd.int .i64) w' (some ⟨qg, 0, none⟩) R.length (natsI R)) ∨ (planG p = false ∧ e = .returned (.tuple #[.slice none 0 0, .bool false]))) ∧ Below w.heap.size w w'
set_option maxRecDepth 100000 in
set_option maxHeartbeats 8000000 in
theorem nearFirst_any (A : Option Addr) (cap : Nat) (p : List ByteArray) (hp : SmallP p) (w : World) (hr0 : Kd.C Kd.string w A p.length p) (hc0 : p.length ≤ cap) :
    Calls Try.prog 30 #[.slice A p.length cap] w fun e w' => FirstE w w' p e := by
  have HFL := floorOf_any A cap p hp.1 hp.2 w hr0 hc0
  clear hr0
  go_enter Try.func30, Try.ntmps30
  go_wp2_with fail
  refine HFL.mono ?_
  rintro e w1 ⟨hb1, ⟨hpl, fb, base, rfl, hbase, hfl⟩ | ⟨hpl, o, rfl⟩⟩
  · have HB1 := Aside0.mk hb1
    have hfr := hfl.reads
    have HTO := Aside0.mk (touchP_any p hpl fb w1 hfr)
    have hn := roomN_pos hpl
    have HPL := Aside0.mk hpl
    obtain ⟨n, hnn⟩ : ∃ n, roomN p = n := ⟨_, rfl⟩
    have HNN := Aside0.mk hnn
    rw [hnn] at hn HTO
    clear hb1 hpl hfl hfr hnn
    go_wp2_with fail
    refine HTO.out.mono ?_
    rintro e w2 ⟨g, rb, T, rfl, hI, hT, hb2⟩
    have HB2 := Aside0.mk (HB1.out.trans (hb2.mono HB1.out.size))
    have HCO := Aside0.mk (fun (m : Nat) (hm : m ≤ 9) W (hW : Below w2.heap.size w2 W) => coloured_any g n rb T (nbP p) hn hT m hm W (hI.below hW))
    clear hI hT hb2
    go_wp2_with fail
    go_loopg [7] n (fun gg i wr => ∃ m : Nat, i = .int .i64 m ∧ 1 ≤ m ∧ m ≤ n ∧ n - m ≤ gg ∧ Aside0 ((∀ m', 1 ≤ m' → m' < m → colS (nbP p) n m' n [] = none) ∧ Below w2.heap.size w2 wr))
    case atStart => exact ⟨1, rfl, Nat.le_refl _, hn.1, by omega, ⟨fun m' h1 h2 => absurd h2 (by omega), Below.refl _ _⟩⟩
    case round =>
      obtain ⟨m, rfl, hm1, hmn, hgg, HD⟩ := hrel
      go_wp2_with fail
      refine (HCO.out m (by omega) _ HD.out.2).mono ?_
      rintro e w3 ⟨⟨hno, rfl⟩ | ⟨R, qg, cap3, hR, rfl, hcap, hC⟩, hb3⟩
      · have HB3 := Aside0.mk (HD.out.2.trans (hb3.mono HD.out.2.size))
        have hmn2 : m < n := by
          by_cases e : m = n
          · subst e
            have := colS_many (nbP p) m
            rw [hno] at this; cases this
          · omega
        have HNO : Aside0 (∀ m', 1 ≤ m' → m' < m + 1 → colS (nbP p) n m' n [] = none) := ⟨fun m' h1 h2 => by
          by_cases e : m' = m
          · rw [e]; exact hno
          · exact HD.out.1 m' h1 (by omega)⟩
        clear hno hb3
        go_wp2_with fail
        go_roundg (n - (m + 1))
        case rel => exact ⟨m + 1, by go_num, by omega, by omega, Nat.le_refl _, ⟨HNO.out, HB3.out⟩⟩
        case measure => omega
      · have HR : Aside0 (FirstE w w3 p (.returned (.tuple #[.slice (some ⟨qg, 0, none⟩) R.length cap3, .bool true]))) := ⟨⟨.inl ⟨HPL.out, R, _, cap3, by rw [HNN.out]; exact ⟨m, hm1, hmn, hR, HD.out.1⟩, rfl, hcap, hC⟩, HB2.out.trans ((HD.out.2.trans (hb3.mono HD.out.2.size)).mono HB2.out.size)⟩⟩
        clear hR hcap hC hb3
        go_wp2_with fail
        go_ret2
        exact HR.out
  · have HR : Aside0 (FirstE w w1 p (.returned (.tuple #[.slice none 0 0, .bool false]))) := ⟨⟨.inr ⟨hpl, rfl⟩, hb1⟩⟩
    clear hb1 hpl
    go_wp2_with fail
    go_ret2
    exact HR.out
end Go.Proofs.Ytbpppchkgjcahaa
end
section
namespace Go.Proofs.Ytbpppchkgjcahaa
open Go.RowKit Go.Shelf Go.Proofs.YtbpppchkgjcahaaW.PrintWords Go.Proofs.YtbpppchkgjcahaaW.PrintMore
set_option linter.unusedVariables false
set_option linter.unusedSimpArgs false
def ColoursE (w w' : World) (p : List ByteArray) (e : Ending) : Prop := ((planG p = true ∧ ∃ R, IsFirst (nbP p) (roomN p) R ∧ e = .returned (.tuple #[.int .i64 (Lib.maxOf (natsI R) + 1), .bool true])) ∨ (planG p = false ∧ e = .returned (.tuple #[.int .i64 0, .bool false]))) ∧ Below w.heap.size w w'
theorem first_small {nb : Nat → Nat → Bool} {n : Nat} {R : List Nat} (h : IsFirst nb n R) : R.length = n ∧ ∀ j, j < n → R.getD j 0 < n := by
  obtain ⟨m, h1, h2, h3, _⟩ := h
  have G := colS_good n [] R (by simp) h3
  exact ⟨G.len, fun j hj => by have := G.few j (Nat.zero_le _) hj; omega⟩
theorem getD_natsI {R : List Nat} {j : Nat} (hj : j < R.length) : (natsI R).getD j 0 = ((R.getD j 0 : Nat) : Int) := by
  unfold natsI
  rw [List.getD_eq_getElem?_getD, List.getD_eq_getElem?_getD, List.getElem?_map, List.getElem?_eq_getElem hj]; rfl
theorem colours_max {nb : Nat → Nat → Bool} {n : Nat} {R : List Nat} (hn : 1 ≤ n) (h : IsFirst nb n R) : (∀ j, j < n → ((R.getD j 0 : Nat) : Int) ≤ Lib.maxOf (natsI R)) ∧ 0 ≤ Lib.maxOf (natsI R) ∧ Lib.maxOf (natsI R) < (n : Int) := by
  obtain ⟨h1, h2⟩ := first_small h
  have hl : (natsI R).length = n := by unfold natsI; rw [List.length_map, h1]
  have ge : ∀ j, j < n → ((R.getD j 0 : Nat) : Int) ≤ Lib.maxOf (natsI R) := fun j hj => by
    have := maxOf_ge (L := natsI R) (j := j) (by omega)
    unfold dAt at this
    rwa [getD_natsI (by omega)] at this
  obtain ⟨j, hj, e⟩ := maxOf_ex (L := natsI R) (by intro e; rw [e] at hl; simp at hl; omega)
  unfold dAt at e
  rw [getD_natsI (by omega)] at e
  have := h2 j (by omega)
  exact ⟨ge, by have := ge 0 (by omega); omega, by omega⟩
theorem cells_C {W : World} {g n : Nat} {xs : List Int} (hC : Kd.C (Kd.int .i64) W (some ⟨g, 0, none⟩) n xs) {j : Nat} (hj : j < n) : W.cell? ⟨g, j, none⟩ = some (.int .i64 (xs.getD j 0)) := by
  obtain ⟨ad, e, hc⟩ := Kd.at_int hC (j : Int) (by omega) (by omega)
  injection e with e
  subst e
  rw [Int.toNat_natCast] at hc
  unfold rd at hc
  rw [Int.toNat_natCast] at hc
  by_cases k0 : j = 0
  · subst k0; simpa [Addr.add] using hc
  · simpa [Addr.add, k0] using hc
set_option maxRecDepth 100000 in
set_option maxHeartbeats 8000000 in
theorem nearColours_any (A : Option Addr) (cap : Nat) (p : List ByteArray) (hp : SmallP p) (w : World) (hr0 : Kd.C Kd.string w A p.length p) (hc0 : p.length ≤ cap) :
    Calls Try.prog 33 #[.slice A p.length cap] w fun e w' => ColoursE w w' p e := by
  have HFL := nearFirst_any A cap p hp w hr0 hc0
  clear hr0
  go_enter Try.func33, Try.ntmps33
  go_wp2_with fail
  refine HFL.mono ?_
  rintro e w1 ⟨⟨hpl, R, qg, c1, hR, rfl, hcap, hC⟩ | ⟨hpl, rfl⟩, hb1⟩
  · have HB1 := Aside0.mk hb1
    have hn := roomN_pos hpl
    have hlen := (first_small hR).1
    obtain ⟨_, hm0, hm1⟩ := colours_max hn.1 hR
    have HPR := Aside0.mk (And.intro hpl hR)
    have hm9 : Lib.maxOf (natsI R) ≤ 100 := by omega
    have HMX : Aside0 (Calls Try.prog 82 #[.slice (some ⟨qg, 0, none⟩) R.length c1] w1 fun e w' => e = .returned (.int .i64 (Lib.maxOf (natsI R))) ∧ w' = w1) := ⟨by
      have hl : (natsI R).length = R.length := by simp [natsI]
      have h := Try.slices_Max_int qg 0 R.length c1 (natsI R) w1 (by omega) (by omega) (by omega) (fun j hj => by
        rw [Nat.zero_add]; exact cells_C hC (by omega))
      rw [List.take_of_length_le (by omega)] at h
      exact h⟩
    obtain ⟨M, hM⟩ : ∃ M, Lib.maxOf (natsI R) = M := ⟨_, rfl⟩
    have HMM := Aside0.mk hM
    rw [hM] at HMX hm0 hm9
    clear hm1
    obtain ⟨l, hl⟩ : ∃ l, R.length = l := ⟨_, rfl⟩
    rw [hl] at HMX hlen hcap ⊢
    clear hpl hR hC hb1 hM hl hlen hcap hn
    go_wp2_with fail
    refine HMX.out.mono ?_
    rintro e w2 ⟨rfl, rfl⟩
    go_wp2_with fail
    go_ret2
    exact ⟨.inl ⟨HPR.out.1, R, HPR.out.2, by rw [HMM.out]; rfl⟩, HB1.out⟩
  · have HR : Aside0 (ColoursE w w1 p (.returned (.tuple #[.int .i64 0, .bool false]))) := ⟨⟨.inr ⟨hpl, rfl⟩, hb1⟩⟩
    clear hb1 hpl
    go_wp2_with fail
    go_ret2
    exact HR.out
end Go.Proofs.Ytbpppchkgjcahaa
end
section
namespace Go.Proofs.Ytbpppchkgjcahaa
open Go.RowKit Go.Shelf Go.Proofs.YtbpppchkgjcahaaW.PrintWords Go.Proofs.YtbpppchkgjcahaaW.PrintMore
set_option linter.unusedVariables false
set_option linter.unusedSimpArgs false
def resV : Option (List Nat) → List Int × Bool
  | some R => (natsI R, true)
  | none => ([], false)
theorem natsI_len (L : List Nat) : (natsI L).length = L.length := by unfold natsI; rw [List.length_map]
theorem natsI_app (L : List Nat) (c : Nat) : natsI L ++ [(c : Int)] = natsI (L ++ [c]) := by unfold natsI; rw [List.map_append]; rfl
def okTo (nb : Nat → Nat → Bool) (L : List Nat) (c b : Nat) : Bool := (List.range b).all fun x => !(nb L.length x && (L.getD x 0 == c))
theorem okTo_succ (nb : Nat → Nat → Bool) (L : List Nat) (c b : Nat) : okTo nb L c (b + 1) = (okTo nb L c b && !(nb L.length b && (L.getD b 0 == c))) := by
  unfold okTo
  rw [List.range_succ, List.all_append]; simp
theorem okTo_all {nb : Nat → Nat → Bool} {n : Nat} {L : List Nat} {c : Nat} (hl : L.length ≤ n) : okTo nb L c L.length = !clashB nb n L c := by
  cases h : clashB nb n L c with
  | true =>
    obtain ⟨b, h1, h2, h3⟩ := (clashB_iff hl).1 h
    show okTo nb L c L.length = false
    unfold okTo
    rw [List.all_eq_false]
    refine ⟨b, List.mem_range.2 h1, ?_⟩
    rw [h2, h3]; simp
  | false =>
    show okTo nb L c L.length = true
    unfold okTo
    rw [List.all_eq_true]
    intro x hx
    cases h1 : nb L.length x && (L.getD x 0 == c) with
    | false => rfl
    | true =>
      obtain ⟨k1, k2⟩ := Bool.and_eq_true_iff.1 h1
      have := (clashB_iff (nb := nb) (c := c) hl).2 ⟨x, List.mem_range.1 hx, k1, by simpa using k2⟩
      rw [h] at this; cases this
section
variable {p : List ByteArray}
theorem col_l1 (hpl : planG p = true) (L : List Nat) (hl : L.length ≤ 9) (many c : Nat) (hc : c ≤ 9) : ∀ d b, b + d = L.length → ∀ R, Ev (fun k => L12.spec_l4Colour.l1 k p (natsI L) (many : Int) (L.length : Int) (c : Int) (okTo (nbP p) L c L.length) (L.length : Int)) R → Ev (fun k => L12.spec_l4Colour.l1 k p (natsI L) (many : Int) (L.length : Int) (c : Int) (okTo (nbP p) L c b) (b : Int)) R := by
  intro d
  induction d with
  | zero => intro b hb R hR; rw [show b = L.length by omega]; exact hR
  | succ d ih =>
    intro b hb R hR
    have hE := ih (b + 1) (by omega) R hR
    have hbl : b < L.length := by omega
    have w1 : wrap64 ((b : Int) + 1) = ((b + 1 : Nat) : Int) := wsucc (by omega)
    have c1 : (b : Int) < (L.length : Int) := by omega
    have c2 : (0 : Int) ≤ (b : Int) := by omega
    have c3 : (b : Int) < ((natsI L).length : Int) := by rw [natsI_len]; omega
    have hrd : rd (natsI L) (b : Int) = ((L.getD b 0 : Nat) : Int) := by unfold rd; rw [Int.toNat_natCast, getD_natsI hbl]
    rw [okTo_succ] at hE
    cases hok : okTo (nbP p) L c b with
    | false =>
      rw [hok, Bool.false_and] at hE
      refine hE.step fun k => ?_
      conv => lhs; unfold L12.spec_l4Colour.l1
      rw [if_pos c1, if_neg (by simp), w1]
    | true =>
      rw [hok, Bool.true_and] at hE
      by_cases hcol : L.getD b 0 = c
      · obtain ⟨m, m1, m2, m3⟩ := beside_f hpl L.length b
        have hcc : ((L.getD b 0 : Nat) : Int) = (c : Int) := by rw [hcol]
        refine Ev.stepBind (F := fun k (t157 : Int) => L12.spec_l4Colour.l1 k p (natsI L) (many : Int) (L.length : Int) (c : Int) (t157 == 0) ((b + 1 : Nat) : Int)) m3 (fun k => ?_) ?_
        · conv => lhs; unfold L12.spec_l4Colour.l1
          rw [if_pos c1, if_pos rfl, if_pos c2, if_pos c3, hrd, if_pos hcc, w1]
        · have hb2 : (((m : Nat) : Int) == 0) = !(nbP p L.length b && (L.getD b 0 == c)) := by
            rw [hcol, ← m2]
            by_cases hm : 0 < m
            · rw [decide_eq_true hm]
              have : (((m : Nat) : Int) == 0) = false := by rw [beq_eq_false_iff_ne]; omega
              rw [this]; simp
            · rw [decide_eq_false hm, show m = 0 by omega]; simp
          rw [hb2]; exact hE
      · have hcc : ¬ ((L.getD b 0 : Nat) : Int) = (c : Int) := fun e => hcol (Int.ofNat.inj e)
        have hbe : (L.getD b 0 == c) = false := by rw [beq_eq_false_iff_ne]; exact hcol
        rw [hbe, Bool.and_false] at hE
        refine hE.step fun k => ?_
        conv => lhs; unfold L12.spec_l4Colour.l1
        rw [if_pos c1, if_pos rfl, if_pos c2, if_pos c3, hrd, if_neg hcc, w1]
        rfl
theorem col_l0 (hpl : planG p = true) (L : List Nat) (hl : L.length < roomN p) (many : Nat) (hm : many ≤ 9) (f : Nat) (hIH : ∀ c, Ev (fun k => L12.spec_l4Colour.f k p (natsI (L ++ [c])) (many : Int)) (resV (colS (nbP p) (roomN p) many f (L ++ [c])))) :
    ∀ d c, c + d = many → ((List.range c).findSome? fun c => if clashB (nbP p) (roomN p) L c then none else colS (nbP p) (roomN p) many f (L ++ [c])) = none →
      Ev (fun k => L12.spec_l4Colour.l0 k p (natsI L) (many : Int) (L.length : Int) (c : Int)) (resV ((List.range many).findSome? fun c => if clashB (nbP p) (roomN p) L c then none else colS (nbP p) (roomN p) many f (L ++ [c]))) := by
  have hn := roomN_pos hpl
  intro d
  induction d with
  | zero =>
    intro c hc h0
    obtain rfl : c = many := by omega
    rw [h0]
    refine Ev.now fun k => ?_
    unfold L12.spec_l4Colour.l0
    rw [if_neg (by omega)]; rfl
  | succ d ih =>
    intro c hc h0
    have w1 : wrap64 ((c : Int) + 1) = ((c + 1 : Nat) : Int) := wsucc (by omega)
    refine (col_l1 hpl L (by omega) many c (by omega) L.length 0 (by omega) _ ?_).step fun k => by
      show L12.spec_l4Colour.l0 (k + 1) p (natsI L) (many : Int) (L.length : Int) (c : Int) = L12.spec_l4Colour.l1 k p (natsI L) (many : Int) (L.length : Int) (c : Int) true 0
      conv => lhs; unfold L12.spec_l4Colour.l0
      rw [if_pos (by omega)]
    rw [okTo_all (Nat.le_of_lt hl)]
    cases hcl : clashB (nbP p) (roomN p) L c with
    | true =>
      have hE := ih (c + 1) (by omega) (by rw [find_succ, h0]; simp only [hcl, if_true])
      refine hE.step fun k => ?_
      conv => lhs; unfold L12.spec_l4Colour.l1
      rw [if_neg (by omega), if_neg (by simp), w1]
    | false =>
      have s1 : (([] : List Int)).length + (natsI L).length < 17592186044416 := by rw [natsI_len]; simp; omega
      have s2 : (([] : List Int) ++ natsI L).length < 17592186044416 := by rw [List.nil_append, natsI_len]; omega
      refine Ev.stepBind (F := fun k (bt167 : List Int × Bool) => (if bt167.2 = true then (some (bt167.1, true)) else (L12.spec_l4Colour.l0 k p (natsI L) (many : Int) (L.length : Int) ((c + 1 : Nat) : Int)))) (hIH c) (fun k => ?_) ?_
      · conv => lhs; unfold L12.spec_l4Colour.l1
        rw [if_neg (by omega), Bool.not_false, if_pos rfl, Option.bind_some, if_pos s1, Option.bind_some, if_pos s2, List.nil_append, natsI_app, w1]
      · cases hr : colS (nbP p) (roomN p) many f (L ++ [c]) with
        | some R =>
          have hfs := find_stop (many := many) h0 (by omega : c < many) (x := R) (by simp only [hcl, Bool.false_eq_true, if_false]; exact hr)
          rw [hfs]
          exact Ev.const _
        | none =>
          have hE := ih (c + 1) (by omega) (by rw [find_succ, h0]; simp only [hcl, Bool.false_eq_true, if_false]; exact hr)
          exact hE
theorem colour_ev (hpl : planG p = true) (many : Nat) (hm : many ≤ 9) : ∀ (f : Nat) (L : List Nat), L.length ≤ roomN p → roomN p ≤ L.length + f → Ev (fun k => L12.spec_l4Colour.f k p (natsI L) (many : Int)) (resV (colS (nbP p) (roomN p) many f L)) := by
  have hr := rooms_some hpl
  intro f
  induction f with
  | zero =>
    intro L h1 h2
    rw [colS_done (by omega)]
    refine Ev.now fun k => ?_
    unfold L12.spec_l4Colour.f
    rw [hr, Option.bind_some, if_pos (by rw [natsI_len]; omega)]; rfl
  | succ f ih =>
    intro L h1 h2
    by_cases e : L.length = roomN p
    · rw [colS_done e]
      refine Ev.now fun k => ?_
      unfold L12.spec_l4Colour.f
      rw [hr, Option.bind_some, if_pos (by rw [natsI_len]; omega)]; rfl
    · rw [colS_more e]
      refine (col_l0 hpl L (by omega) many hm f (fun c => ih (L ++ [c]) (by rw [List.length_append, List.length_singleton]; omega) (by rw [List.length_append, List.length_singleton]; omega)) many 0 (by omega) rfl).step fun k => ?_
      conv => lhs; unfold L12.spec_l4Colour.f
      rw [hr, Option.bind_some, if_neg (by rw [natsI_len]; omega), natsI_len]
      rfl
theorem least_l0 (hpl : planG p = true) : ∀ d m, m + d = roomN p → 1 ≤ m → (∀ m', 1 ≤ m' → m' < m → colS (nbP p) (roomN p) m' (roomN p) [] = none) → ∃ R M, IsFirst (nbP p) (roomN p) R ∧ Ev (fun k => L12.spec_l4Least.l0 k p (m : Int) (resV (colS (nbP p) (roomN p) m (roomN p) [])).1 (resV (colS (nbP p) (roomN p) m (roomN p) [])).2) (M, natsI R) := by
  have hn := roomN_pos hpl
  have found : ∀ m R, m ≤ roomN p → 1 ≤ m → (∀ m', 1 ≤ m' → m' < m → colS (nbP p) (roomN p) m' (roomN p) [] = none) → colS (nbP p) (roomN p) m (roomN p) [] = some R → ∃ R M, IsFirst (nbP p) (roomN p) R ∧ Ev (fun k => L12.spec_l4Least.l0 k p (m : Int) (resV (colS (nbP p) (roomN p) m (roomN p) [])).1 (resV (colS (nbP p) (roomN p) m (roomN p) [])).2) (M, natsI R) := fun m R h1 h2 h3 h4 => by
    refine ⟨R, (m : Int), ⟨m, h2, h1, h4, h3⟩, ?_⟩
    rw [h4]
    refine Ev.now fun k => ?_
    unfold L12.spec_l4Least.l0
    rw [show (resV (some R)).2 = true from rfl, if_pos rfl]; rfl
  intro d
  induction d with
  | zero =>
    intro m hm h1 h2
    obtain rfl : m = roomN p := by omega
    obtain ⟨R, hR⟩ := Option.isSome_iff_exists.1 (colS_many (nbP p) (roomN p))
    exact found (roomN p) R (Nat.le_refl _) h1 h2 hR
  | succ d ih =>
    intro m hm h1 h2
    cases hc : colS (nbP p) (roomN p) m (roomN p) [] with
    | some R =>
      have := found m R (by omega) h1 h2 hc
      rw [hc] at this
      exact this
    | none =>
      obtain ⟨R, M, r1, r2⟩ := ih (m + 1) (by omega) (by omega) (fun m' k1 k2 => by
        by_cases e : m' = m
        · rw [e]; exact hc
        · exact h2 m' k1 (by omega))
      refine ⟨R, M, r1, ?_⟩
      have hE := colour_ev hpl (m + 1) (by omega) (roomN p) [] (by simp) (by simp)
      refine Ev.stepBind (F := fun k (bt181 : List Int × Bool) => L12.spec_l4Least.l0 k p ((m + 1 : Nat) : Int) bt181.1 bt181.2) hE (fun k => ?_) r2
      conv => lhs; unfold L12.spec_l4Least.l0
      rw [show (resV (none : Option (List Nat))).2 = false from rfl, if_neg (by simp), wsucc (by omega)]
      rfl
theorem first_ev (hp : SmallP p) (hpl : planG p = true) : ∃ R, IsFirst (nbP p) (roomN p) R ∧ Ev (fun k => L12.spec_NearFirst.f k p) (natsI R, true) := by
  have hn := roomN_pos hpl
  obtain ⟨R, M, r1, r2⟩ := least_l0 hpl (roomN p - 1) 1 (by omega) (Nat.le_refl _) (fun m' h1 h2 => absurd h2 (by omega))
  have hE := colour_ev hpl 1 (by omega) (roomN p) [] (by simp) (by simp)
  have hL : Ev (fun k => L12.spec_l4Least.f k p) (M, natsI R) := by
    refine Ev.same (Ev.bind (F := fun k (bt174 : List Int × Bool) => L12.spec_l4Least.l0 k p 1 bt174.1 bt174.2) hE r2) fun k => ?_
    unfold L12.spec_l4Least.f; rfl
  have hPI : spec_PlanIn.f p = some true := by unfold spec_PlanIn.f; rw [if_pos hp, hpl]
  refine ⟨R, r1, Ev.same (Ev.bind (F := fun k (bt186 : Int × List Int) => some (bt186.2, true)) hL (Ev.const _)) fun k => ?_⟩
  unfold L12.spec_NearFirst.f
  rw [hPI, Option.bind_some, if_pos rfl]
theorem first_no (hp : SmallP p) (hpl : planG p = false) : L12.spec_NearFirst.f 1 p = some ([], false) := by
  have hPI : spec_PlanIn.f p = some false := by unfold spec_PlanIn.f; rw [if_pos hp, hpl]
  unfold L12.spec_NearFirst.f
  rw [hPI, Option.bind_some, if_neg (by simp)]
end
end Go.Proofs.Ytbpppchkgjcahaa
end
