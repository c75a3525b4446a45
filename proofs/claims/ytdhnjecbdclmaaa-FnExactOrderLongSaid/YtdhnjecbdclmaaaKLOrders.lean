/- The program's orders: who is left of whom, and who is above whom. -/
import Derived.Test.YtdhnjecbdclmaaaKLAlong
import Derived.Test.YtdhnjecbdclmaaaKLBitPM
import Derived.Deep.RegionHeld3
namespace Go.Proofs.Ytdhnjecbdclmaaa
open Go.RowKit Go.Shelf Go.Proofs.YtdhnjecbdclmaaaW.PrintWords Go.Proofs.YtdhnjecbdclmaaaW.PrintMore
set_option linter.unusedVariables false
set_option linter.unusedSimpArgs false
structure OrdI (W : World) (b g1 g2 gt n : Nat) (RL RA : Nat → Nat → Bool) (v : Value) (L : List WallT) : Prop where
  left : RelW W g1 n RL
  above : RelW W g2 n RA
  pair : W.heap[gt]? = some (.cells #[.slice (some ⟨g1, 0, none⟩) n n, .slice (some ⟨g2, 0, none⟩) n n] 101 (0, 0))
  walls : WallsW W b v L
  big : b ≤ W.heap.size
  far1 : g1 + n < g2
  far2 : gt < g1 ∨ g1 + n < gt
  far3 : gt < g2 ∨ g2 + n < gt
  far4 : g1 + n < b ∧ g2 + n < b ∧ gt < b
section
variable {W W' : World} {b g1 g2 gt n : Nat} {RL RA : Nat → Nat → Bool} {v : Value} {L : List WallT} (h : OrdI W b g1 g2 gt n RL RA v L)
include h
theorem OrdI.below (hb : Below W.heap.size W W') : OrdI W' b g1 g2 gt n RL RA v L := by
  obtain ⟨h1, h2, h3, h4, h5, h6, h7, h8, h9⟩ := h
  have hs := hb.size
  exact ⟨h1.keep fun k k1 k2 => hb.block k (by omega), h2.keep fun k k1 k2 => hb.block k (by omega), (hb.block gt (by omega)).trans h3, h4.below hb, by omega, h6, h7, h8, h9⟩
theorem OrdI.setL {x y : Nat} (hx : x < n) (hy : y < n) : OrdI (W.setCell ⟨g1 + 1 + x, y, none⟩ (.bool true)) b g1 g2 gt n (setR RL x y true) RA v L := by
  obtain ⟨h1, h2, h3, h4, h5, h6, h7, h8, h9⟩ := h
  have ne : ∀ k, k ≠ g1 + 1 + x → (W.setCell ⟨g1 + 1 + x, y, none⟩ (.bool true)).heap[k]? = W.heap[k]? := fun k hk => Below.heap_setCell _ _ _ _ hk
  exact ⟨h1.set hx hy true, h2.keep fun k k1 k2 => ne k (by omega), (ne gt (by omega)).trans h3, h4.move fun j hj => ne j (by have := (World.ownsRow.lt h4 j hj).1; omega), by rw [World.size_setCell]; exact h5, h6, h7, h8, h9⟩
theorem OrdI.setA {x y : Nat} (hx : x < n) (hy : y < n) : OrdI (W.setCell ⟨g2 + 1 + x, y, none⟩ (.bool true)) b g1 g2 gt n RL (setR RA x y true) v L := by
  obtain ⟨h1, h2, h3, h4, h5, h6, h7, h8, h9⟩ := h
  have ne : ∀ k, k ≠ g2 + 1 + x → (W.setCell ⟨g2 + 1 + x, y, none⟩ (.bool true)).heap[k]? = W.heap[k]? := fun k hk => Below.heap_setCell _ _ _ _ hk
  exact ⟨h1.keep fun k k1 k2 => ne k (by omega), h2.set hx hy true, (ne gt (by omega)).trans h3, h4.move fun j hj => ne j (by have := (World.ownsRow.lt h4 j hj).1; omega), by rw [World.size_setCell]; exact h5, h6, h7, h8, h9⟩
end
theorem OwnI.setCell {W : World} {base : Nat} {A : Option Addr} {xs : List Int} (h : OwnI W base A xs) {p : Addr} (hp : p.block < base) (u : Value) : OwnI (W.setCell p u) base A xs :=
  h.move (by rw [World.size_setCell]; exact Nat.le_refl _) fun g g1 g2 => Below.heap_setCell _ _ _ _ (by omega)
structure OrdP (W : World) (s g1 g2 gt n : Nat) : Prop where
  left : RelW W g1 n (fun _ _ => false)
  above : RelW W g2 n (fun _ _ => false)
  pair : W.heap[gt]? = some (.cells #[.slice (some ⟨g1, 0, none⟩) n n, .slice (some ⟨g2, 0, none⟩) n n] 101 (0, 0))
  far1 : g1 + n < g2
  far2 : gt < g1 ∨ g1 + n < gt
  far3 : gt < g2 ∨ g2 + n < gt
  low : s ≤ g1 ∧ s ≤ g2 ∧ s ≤ gt
  high : g1 + n < W.heap.size ∧ g2 + n < W.heap.size ∧ gt < W.heap.size
theorem ordP_store {B : World} {s g1 g2 gt n : Nat} {x y : Value} (hL : RelW B g1 n (fun _ _ => false)) (hR : RelW B g2 n (fun _ _ => false)) (hz : B.heap[gt]? = some (.cells #[x, y] 101 (0, 0)))
    (far1 : g1 + n < g2) (far2 : gt < g1 ∨ g1 + n < gt) (far3 : gt < g2 ∨ g2 + n < gt) (low : s ≤ g1 ∧ s ≤ g2 ∧ s ≤ gt) (high : g1 + n < B.heap.size ∧ g2 + n < B.heap.size ∧ gt < B.heap.size) :
    OrdP ((B.setCell ⟨gt, 0, none⟩ (.slice (some ⟨g1, 0, none⟩) n n)).setCell ⟨gt, 1, none⟩ (.slice (some ⟨g2, 0, none⟩) n n)) s g1 g2 gt n := by
  have ne : ∀ k, k ≠ gt → ((B.setCell ⟨gt, 0, none⟩ (.slice (some ⟨g1, 0, none⟩) n n)).setCell ⟨gt, 1, none⟩ (.slice (some ⟨g2, 0, none⟩) n n)).heap[k]? = B.heap[k]? := fun k hk => (Below.heap_setCell _ _ _ _ hk).trans (Below.heap_setCell _ _ _ _ hk)
  exact ⟨hL.keep fun k k1 k2 => ne k (by omega), hR.keep fun k k1 k2 => ne k (by omega), (two_set (two_set hz _).1 _).2, far1, far2, far3, low, by rw [World.size_setCell, World.size_setCell]; exact high⟩
theorem below_store2 {B W1 : World} {s gt : Nat} {x y : Value} (h : Below s W1 B) (hg : s ≤ gt) : Below s W1 ((B.setCell ⟨gt, 0, none⟩ x).setCell ⟨gt, 1, none⟩ y) := Below.setCell (p := ⟨gt, 1, none⟩) (Below.setCell (p := ⟨gt, 0, none⟩) h hg _) hg _
theorem ordP_C {W1 V A B : World} {n : Nat} (hV : V = W1.drew) (a1 : RelW A V.heap.size n (fun _ _ => false)) (a2 : A.heap.size = V.heap.size + 1 + n) (a3 : Below V.heap.size V A) (b1 : RelW B A.heap.size n (fun _ _ => false)) (b2 : B.heap.size = A.heap.size + 1 + n) (b3 : Below A.heap.size A B) :
    OrdP (B.alloc (.cells #[.slice (some ⟨W1.heap.size, 0, none⟩) n n, .slice (some ⟨A.heap.size, 0, none⟩) n n] 101)) W1.heap.size W1.heap.size A.heap.size B.heap.size n ∧ Below W1.heap.size W1 (B.alloc (.cells #[.slice (some ⟨W1.heap.size, 0, none⟩) n n, .slice (some ⟨A.heap.size, 0, none⟩) n n] 101)) := by
  subst hV
  have e : W1.drew.heap.size = W1.heap.size := rfl
  rw [e] at a1 a2 a3
  have hb : Below W1.heap.size W1 B := (show Below W1.heap.size W1 A from ⟨a3.os, a3.tape, a3.output, a3.size, a3.block⟩).trans (b3.mono (by omega))
  refine ⟨⟨?_, ?_, heap_alloc_new _ _, by omega, .inr (by omega), .inr (by omega), ⟨by omega, by omega, by omega⟩, by simp; omega⟩, hb.alloc (by omega) _⟩
  · exact (a1.keep (W' := B) fun k k1 k2 => b3.block k (by omega)).keep fun k k1 k2 => Below.heap_alloc _ _ _ (by omega)
  · exact b1.keep fun k k1 k2 => Below.heap_alloc _ _ _ (by omega)
theorem ordP_B {W1 V A X B : World} {n : Nat} {o : Obj} {x y : Value} (hV : V = W1.drew) (hX : X = A.alloc o) (a1 : RelW A V.heap.size n (fun _ _ => false)) (a2 : A.heap.size = V.heap.size + 1 + n) (a3 : Below V.heap.size V A) (b1 : RelW B X.heap.size n (fun _ _ => false)) (b2 : B.heap.size = X.heap.size + 1 + n) (b3 : Below X.heap.size X B)
    (hz : B.heap[A.heap.size]? = some (.cells #[x, y] 101 (0, 0))) :
    OrdP ((B.setCell ⟨A.heap.size, 0, none⟩ (.slice (some ⟨W1.heap.size, 0, none⟩) n n)).setCell ⟨A.heap.size, 1, none⟩ (.slice (some ⟨A.heap.size + 1, 0, none⟩) n n)) W1.heap.size W1.heap.size (A.heap.size + 1) A.heap.size n ∧ Below W1.heap.size W1 ((B.setCell ⟨A.heap.size, 0, none⟩ (.slice (some ⟨W1.heap.size, 0, none⟩) n n)).setCell ⟨A.heap.size, 1, none⟩ (.slice (some ⟨A.heap.size + 1, 0, none⟩) n n)) := by
  subst hV hX
  have e : W1.drew.heap.size = W1.heap.size := rfl
  rw [e] at a1 a2 a3
  have ex : (A.alloc o).heap.size = A.heap.size + 1 := by simp
  rw [ex] at b1 b2 b3
  have hA : Below W1.heap.size W1 A := ⟨a3.os, a3.tape, a3.output, a3.size, a3.block⟩
  have hb : Below W1.heap.size W1 B := (hA.alloc (by omega) o).trans (b3.mono (by omega))
  refine ⟨ordP_store ?_ b1 hz (by omega) (.inr (by omega)) (.inl (by omega)) ⟨by omega, by omega, by omega⟩ ⟨by omega, by omega, by omega⟩, below_store2 hb (by omega)⟩
  exact a1.keep fun k k1 k2 => (b3.block k (by omega)).trans (Below.heap_alloc _ _ _ (by omega))
theorem ordP_A {W1 V A B : World} {n : Nat} {o : Obj} {x y : Value} (hV : V = (W1.alloc o).drew) (hu : (0 : Nat) = 0) (a1 : RelW A V.heap.size n (fun _ _ => false)) (a2 : A.heap.size = V.heap.size + 1 + n) (a3 : Below V.heap.size V A) (b1 : RelW B A.heap.size n (fun _ _ => false)) (b2 : B.heap.size = A.heap.size + 1 + n) (b3 : Below A.heap.size A B)
    (hz : B.heap[W1.heap.size]? = some (.cells #[x, y] 101 (0, 0))) :
    OrdP ((B.setCell ⟨W1.heap.size, 0, none⟩ (.slice (some ⟨W1.heap.size + 1, 0, none⟩) n n)).setCell ⟨W1.heap.size, 1, none⟩ (.slice (some ⟨A.heap.size, 0, none⟩) n n)) W1.heap.size (W1.heap.size + 1) A.heap.size W1.heap.size n ∧ Below W1.heap.size W1 ((B.setCell ⟨W1.heap.size, 0, none⟩ (.slice (some ⟨W1.heap.size + 1, 0, none⟩) n n)).setCell ⟨W1.heap.size, 1, none⟩ (.slice (some ⟨A.heap.size, 0, none⟩) n n)) := by
  subst hV
  have e : (W1.alloc o).drew.heap.size = W1.heap.size + 1 := by
    show (W1.alloc o).heap.size = _
    simp
  rw [e] at a1 a2 a3
  have hA : Below W1.heap.size W1 A := ((Below.refl _ _).alloc (Nat.le_refl _) o).trans ((show Below (W1.heap.size + 1) (W1.alloc o) A from ⟨a3.os, a3.tape, a3.output, by have := a3.size; exact this, a3.block⟩).mono (by omega))
  have hb : Below W1.heap.size W1 B := hA.trans (b3.mono (by omega))
  refine ⟨ordP_store ?_ b1 hz (by omega) (.inl (by omega)) (.inl (by omega)) ⟨by omega, by omega, by omega⟩ ⟨by omega, by omega, by omega⟩, below_store2 hb (by omega)⟩
  exact a1.keep fun k k1 k2 => b3.block k (by omega)
theorem cell_lt {W : World} {p : Addr} {v : Value} (h : W.cell? p = some v) : p.block < W.heap.size := by
  unfold World.cell? at h
  cases hb : W.heap[p.block]? with
  | none => rw [hb] at h; cases h
  | some o => exact (Array.getElem?_eq_some_iff.1 hb).1
theorem below_cell_some {W W' : World} {p : Addr} {v : Value} (hb : Below W.heap.size W W') (h : W.cell? p = some v) : W'.cell? p = some v := (hb.cell (cell_lt h)).trans h
theorem below_heap_some {W W' : World} {j : Nat} {o : Obj} (hb : Below W.heap.size W W') (h : W.heap[j]? = some o) : W'.heap[j]? = some o := (hb.block j (Array.getElem?_eq_some_iff.1 h).1).trans h
theorem pair_zero {W : World} {j : Nat} {x y : Value} {t : TypeId} (h : W.heap[j]? = some (.cells #[x, y] t (0, 0))) : W.cell? ⟨j, 0, none⟩ = some x ∧ W.cell? ⟨j, 1, none⟩ = some y ∧ W.frozen? ⟨j, 0, none⟩ = false ∧ W.frozen? ⟨j, 1, none⟩ = false :=
  ⟨by rw [Lib.cell_of_heap h]; rfl, by rw [Lib.cell_of_heap h]; rfl, Lib.frozen_of_heap h 0, Lib.frozen_of_heap h 1⟩
theorem cell_alloc_some {W : World} {p : Addr} {v : Value} (h : W.cell? p = some v) (o : Obj) : (W.alloc o).cell? p = some v := by
  rw [World.cell?_of_block (w := W) (Below.heap_alloc _ _ _ (cell_lt h))]
  exact h
theorem cell_set2 {W : World} {j : Nat} {p : Addr} {v x y : Value} {o : Obj} (h : W.heap[j]? = some o ∧ p.block ≠ j ∧ W.cell? p = some v) : ((W.setCell ⟨j, 0, none⟩ x).setCell ⟨j, 1, none⟩ y).cell? p = some v := by
  rw [World.cell?_of_block (w := W) ((Below.heap_setCell _ _ _ _ h.2.1).trans (Below.heap_setCell _ _ _ _ h.2.1))]
  exact h.2.2
theorem addR_setR (R : Nat → Nat → Bool) (a b : Nat) (ys : List Int) : setR (addR R [(a : Int)] ys) a b true = addR R [(a : Int)] (ys ++ [(b : Int)]) := by
  have := addR_set R (x := (a : Int)) (y := (b : Int)) (by omega) (by omega) ys
  rw [← this]
  funext i j
  unfold setR
  rw [Int.toNat_natCast, Int.toNat_natCast]
theorem compact_mem (xs : List Int) (v : Int) : v ∈ Lib.compact xs ↔ v ∈ xs := by
  rw [← putL_all, putL_mem]
  simp
theorem side_rooms {cl : Nat → Nat → Int} {boxes : List Box} {h wd : Nat} (f : Flat cl boxes h wd) {x : WallT} (hx : x ∈ wallsL cl h wd) : (∀ v ∈ Lib.compact (sideA cl x), ∃ a : Nat, a < boxes.length ∧ v = (a : Int)) ∧ (∀ v ∈ Lib.compact (sideB cl x), ∃ a : Nat, a < boxes.length ∧ v = (a : Int)) := by
  obtain ⟨lv, y1, y2, y3⟩ := x
  obtain ⟨h1, h2, h3, h4⟩ := wallsL_in hx
  constructor
  · intro v hv
    obtain ⟨r, r1, r2, r3⟩ := sideA_mem.1 ((compact_mem _ _).1 hv)
    cases lv with
    | false =>
      simp only [Bool.false_eq_true, if_false] at h1 h2 h3 r1 r2 r3
      obtain ⟨k, hk, e⟩ := f.num r (y1 - 1) (by omega) (by omega)
      exact ⟨k, hk, by rw [← r3]; exact e⟩
    | true =>
      simp only [if_true] at h1 h2 h3 r1 r2 r3
      obtain ⟨k, hk, e⟩ := f.num (y1 - 1) r (by omega) (by omega)
      exact ⟨k, hk, by rw [← r3]; exact e⟩
  · intro v hv
    obtain ⟨r, r1, r2, r3⟩ := sideB_mem.1 ((compact_mem _ _).1 hv)
    cases lv with
    | false =>
      simp only [Bool.false_eq_true, if_false] at h1 h2 h3 r1 r2 r3
      obtain ⟨k, hk, e⟩ := f.num r y1 (by omega) (by omega)
      exact ⟨k, hk, by rw [← r3]; exact e⟩
    | true =>
      simp only [if_true] at h1 h2 h3 r1 r2 r3
      obtain ⟨k, hk, e⟩ := f.num y1 r (by omega) (by omega)
      exact ⟨k, hk, by rw [← r3]; exact e⟩
theorem just_step {cl : Nat → Nat → Int} (level : Bool) {L : List WallT} {k : Nat} (hk : k < L.length) : justB cl level (L.take (k + 1)) = if L[k].1 = level then addR (justB cl level (L.take k)) (Lib.compact (sideA cl L[k])) (Lib.compact (sideB cl L[k])) else justB cl level (L.take k) := by
  rw [List.take_succ_eq_append_getElem hk, justB_snoc]
  rw [addR_mem (fun x => (compact_mem (sideA cl L[k]) x).symm) (fun x => (compact_mem (sideB cl L[k]) x).symm)]
set_option maxRecDepth 100000 in
set_option maxHeartbeats 16000000 in
theorem orders_any (fb h wd : Nat) (cl : Nat → Nat → Int) (boxes : List Box) (f : Flat cl boxes h wd) (w : World) (hf : FloorR w fb h wd cl boxes) :
    Calls Try.prog 140 #[.pointer (some ⟨fb, 0, none⟩)] w fun e w' => (∃ g1 g2, e = .returned (.agg #[.slice (some ⟨g1, 0, none⟩) boxes.length boxes.length, .slice (some ⟨g2, 0, none⟩) boxes.length boxes.length]) ∧ w.heap.size ≤ g1 ∧ w.heap.size ≤ g2 ∧
      RelW w' g1 boxes.length (kRound boxes.length (justB cl false (wallsL cl h wd)) boxes.length) ∧ RelW w' g2 boxes.length (kRound boxes.length (justB cl true (wallsL cl h wd)) boxes.length)) ∧ Below w.heap.size w w' := by
  have HF := Aside0.mk hf
  have HFL := Aside0.mk f
  obtain ⟨n, hn⟩ : ∃ n, boxes.length = n := ⟨_, rfl⟩
  have hn9 : n ≤ 9 := by have := f.few; omega
  obtain ⟨RA, rc, h4⟩ := hf.rooms
  have hfb : fb < w.heap.size := by obtain ⟨_, _, _, _, q, _⟩ := hf; exact q
  rw [hn] at h4 ⊢
  have HN := Aside0.mk hn
  have HEM := Aside0.mk (fun W => emptyRelation_any n hn9 W)
  have HWA : Aside0 (∀ W, Below w.heap.size w W → _) := ⟨fun W hW => walls_any fb h wd cl boxes f.high f.wide W (HF.out.below hW)⟩
  clear hf f hn
  obtain ⟨W1, hW1⟩ : ∃ W1 : World, W1 = w.alloc (.cells #[.slice none 0 0, .slice none 0 0] 101) := ⟨_, rfl⟩
  have HB1 : Aside0 (Below w.heap.size w W1 ∧ W1.heap.size = w.heap.size + 1 ∧ W1.heap[w.heap.size]? = some (.cells #[.slice none 0 0, .slice none 0 0] 101 (0, 0))) := ⟨by rw [hW1]; exact ⟨(Below.refl _ _).alloc (Nat.le_refl _) _, by simp, heap_alloc_new w _⟩⟩
  have hx1 : W1.cell? ⟨fb, 1, none⟩ = some (.slice RA n rc) := (HB1.out.1.cell (p := ⟨fb, 1, none⟩) hfb).trans h4
  have hlt1 : fb < W1.heap.size := cell_lt hx1
  go_enter Try.func140, Try.ntmps140
  go_wp2_with fail
  rw [← hW1]
  clear hW1 h4
  go_upto_region 1 with fail
  go_cut [3] from 13 to 25 (fun p wx => ∃ g1 g2 gt : Nat, p = .pointer (some ⟨gt, 0, none⟩) ∧ Aside0 (OrdP wx W1.heap.size g1 g2 gt n ∧ Below W1.heap.size W1 wx))
  case first =>
    go_region_held3 (fun w' => w'.cell? ⟨fb, 1, none⟩ = some (.slice RA n rc)) (first
      | exact hx1
      | exact hxA
      | exact cell_alloc_some hxA _
      | exact cell_alloc_some hx1 _
      | exact cell_alloc_some (by exact hx1) _
      | exact cell_set2 ⟨hz, by first | omega | (simp; omega), hxA⟩
      | (go_simp)) ((go_at_call 193; refine Calls.mono (HEM.out _) ?_; rintro e wA ⟨rfl, r1, r2, r3⟩; have hxA : wA.cell? ⟨fb, 1, none⟩ = some (.slice RA n rc) := below_cell_some r3 (by first | exact hxA | exact cell_alloc_some hxA _ | exact hx1 | exact cell_alloc_some hx1 _ | exact cell_alloc_some (by exact hx1) _); have hltA : fb < wA.heap.size := cell_lt hxA; (try (have hz := below_heap_some r3 (by first | exact hz | exact heap_alloc_new _ _); obtain ⟨z0, z1, z2, z3⟩ := pair_zero hz)); (first | (have HQ0 := HQA) | skip); have HQA := Aside0.mk (And.intro r1 (And.intro r2 r3)); clear r1 r2 r3))
    · go_wp2_with fail
      go_meet
      case rel => exact ⟨_, _, _, rfl, ⟨ordP_C rfl HQ0.out.1 HQ0.out.2.1 HQ0.out.2.2 HQA.out.1 HQA.out.2.1 HQA.out.2.2⟩⟩
    · go_wp2_with fail
      go_meet
      case rel => exact ⟨_, _, _, rfl, ⟨ordP_B rfl rfl HQ0.out.1 HQ0.out.2.1 HQ0.out.2.2 HQA.out.1 HQA.out.2.1 HQA.out.2.2 hz⟩⟩
    · go_wp2_with fail
      go_meet
      case rel => exact ⟨_, _, _, rfl, ⟨ordP_A rfl rfl HQ0.out.1 HQ0.out.2.1 HQ0.out.2.2 HQA.out.1 HQA.out.2.1 HQA.out.2.2 hz⟩⟩
  case rest =>
    obtain ⟨g1, g2, gt, rfl, HP⟩ := hcut
    have HBC : Aside0 (Below w.heap.size w wc) := ⟨HB1.out.1.trans (HP.out.2.mono (by have := HB1.out.2.1; omega))⟩
    go_wp2_with fail
    refine (HWA.out wc HBC.out).mono ?_
    rintro e w2 ⟨⟨A, c, rfl, hW⟩, hb2⟩
    have hI : OrdI w2 wc.heap.size g1 g2 gt n (fun _ _ => false) (fun _ _ => false) (.slice A (wallsL cl h wd).length c) (wallsL cl h wd) := by
      obtain ⟨p1, p2, p3, p4, p5, p6, p7, p8⟩ := HP.out.1
      have hs := hb2.size
      exact ⟨p1.keep fun k k1 k2 => hb2.block k (by omega), p2.keep fun k k1 k2 => hb2.block k (by omega), (hb2.block gt p8.2.2).trans p3, hW, hs, p4, p5, p6, p8⟩
    have HLO : Aside0 (W1.heap.size ≤ g1 ∧ W1.heap.size ≤ g2 ∧ W1.heap.size ≤ gt) := ⟨HP.out.1.low⟩
    have hf2 : Below W1.heap.size W1 w2 := HP.out.2.trans (hb2.mono HP.out.2.size)
    have hall : ∀ x ∈ wallsL cl h wd, _ := fun x hx => And.intro (wallsL_in hx) (side_rooms HFL.out hx)
    have HALL := Aside0.mk hall
    have hm72 := wallsL_len cl HFL.out.high.2 HFL.out.wide.2
    obtain ⟨L, hL⟩ : ∃ L, wallsL cl h wd = L := ⟨_, rfl⟩
    rw [hL] at hI HALL hm72 ⊢
    have HLL := Aside0.mk hL
    obtain ⟨m, hm⟩ : ∃ m, L.length = m := ⟨_, rfl⟩
    rw [hm] at hI hm72 ⊢
    have HM := Aside0.mk hm
    obtain ⟨V, hV⟩ : ∃ V, Value.slice A m c = V := ⟨_, rfl⟩
    have HI : Aside0 (OrdI w2 wc.heap.size g1 g2 gt n (justB cl false (L.take 0)) (justB cl true (L.take 0)) V L ∧ Below W1.heap.size W1 w2) := ⟨by rw [← hV]; exact hI, hf2⟩
    obtain ⟨wb, hwb⟩ : ∃ wb, wc.heap.size = wb := ⟨_, rfl⟩
    rw [hwb] at HI
    have HV := Aside0.mk hV
    clear hW hb2 hI hf2 hall hL hm hwb hV
    go_wp2_with fail
    go_loopg [29] m (fun gg i wr => ∃ k : Nat, i = .int .i64 k ∧ k ≤ m ∧ m - k ≤ gg ∧ Aside0 (OrdI wr wb g1 g2 gt n (justB cl false (L.take k)) (justB cl true (L.take k)) V L ∧ Below W1.heap.size W1 wr))
    case atStart => exact ⟨0, rfl, by omega, by omega, HI⟩
    case round =>
      obtain ⟨k, rfl, hk, hgk, HD⟩ := hrel
      obtain ⟨wo, rfl⟩ : ∃ wo : World, wo = wr := ⟨_, rfl⟩
      by_cases hlt : (k : Int) < (m : Int)
      · have HKM : Aside0 (k + 1 ≤ m) := ⟨by omega⟩
        have hkl : k < L.length := by rw [HM.out]; omega
        have hwl := HD.out.1.walls
        rw [← HV.out] at hwl
        obtain ⟨g, c9, hA, hc9, hgg1, hgg2, ⟨cs9, hcs9⟩, hcell⟩ := WallsW.form hwl (by omega)
        injection hA with hA hA2 hA3
        subst hA hA3
        obtain ⟨f0, f1, f2, f3⟩ := hcell k hkl
        have j1 := just_step (cl := cl) false hkl
        have j2 := just_step (cl := cl) true hkl
        obtain ⟨⟨i1, i2, i3, i4⟩, s1, s2⟩ := HALL.out L[k] (List.getElem_mem hkl)
        obtain ⟨⟨lv, y1, y2, y3⟩, hx⟩ : ∃ x, L[k] = x := ⟨_, rfl⟩
        rw [hx] at f0 f1 f2 f3 j1 j2 i1 i2 i3 s1 s2
        dsimp only at f0 f1 f2 f3 j1 j2 i1 i2 i3
        have HBR : Aside0 (Below w.heap.size w wo) := ⟨HB1.out.1.trans (HD.out.2.mono (by have := HB1.out.2.1; omega))⟩
        have hal : ∀ W, Below w.heap.size w W → _ := fun W hW => along_any fb h wd cl boxes HFL.out.high HFL.out.wide W (HF.out.below hW) (lv, y1, y2, y3) i1 i2 i3
        have HAL := Aside0.mk hal
        obtain ⟨XS, hXS⟩ : ∃ XS, Lib.compact (sideA cl (lv, y1, y2, y3)) = XS := ⟨_, rfl⟩
        obtain ⟨YS, hYS⟩ : ∃ YS, Lib.compact (sideB cl (lv, y1, y2, y3)) = YS := ⟨_, rfl⟩
        rw [hXS] at HAL j1 j2 s1
        rw [hYS] at HAL j1 j2 s2
        have hxl : XS.length ≤ 6 ∧ YS.length ≤ 6 := by
          have u1 := compact_len (sideA cl (lv, y1, y2, y3))
          have u2 := compact_len (sideB cl (lv, y1, y2, y3))
          rw [hXS] at u1
          rw [hYS] at u2
          unfold sideA at u1
          unfold sideB at u2
          rw [List.length_map, List.length_range] at u1 u2
          dsimp only at u1 u2
          have v1 := HFL.out.high
          have v2 := HFL.out.wide
          cases lv
          · simp only [Bool.false_eq_true, if_false] at i3; omega
          · simp only [if_true] at i3; omega
        rw [HN.out] at s1 s2
        have HXR := Aside0.mk (And.intro s1 s2)
        unfold wallVal at HAL
        dsimp only at HAL
        have k0 : (0 : Int) ≤ (k : Int) := by omega
        have n9 : (m : Int) ≤ (c : Int) := by rw [HM.out] at hc9; omega
        have HD4 : Aside0 (OrdI (wo.alloc (.cells #[.bool lv, .int .i64 y1, .int .i64 y2, .int .i64 y3] 116)) wb g1 g2 gt n (justB cl false (L.take k)) (justB cl true (L.take k)) V L) := ⟨HD.out.1.below ((Below.refl _ _).alloc (Nat.le_refl _) _)⟩
        have HF4 : Aside0 (Below W1.heap.size W1 (wo.alloc (.cells #[.bool lv, .int .i64 y1, .int .i64 y2, .int .i64 y3] 116))) := ⟨HD.out.2.alloc HD.out.2.size _⟩
        obtain ⟨RL0, hRL0⟩ : ∃ R, justB cl false (L.take k) = R := ⟨_, rfl⟩
        obtain ⟨RA0, hRA0⟩ : ∃ R, justB cl true (L.take k) = R := ⟨_, rfl⟩
        rw [hRL0] at HD4 j1
        rw [hRA0] at HD4 j2
        have p0 := (pair_zero HD4.out.pair).1
        have p1 := (pair_zero HD4.out.pair).2.1
        have HBB : Aside0 (wb ≤ wo.heap.size) := ⟨HD.out.1.big⟩
        clear hcs9 hcell hx hXS hYS hal hwl hgg1 hgg2 hA2 hc9 hkl i1 i2 i3 i4 s1 s2 hRL0 hRA0
        cases lv with
        | true =>
          rw [if_neg (by simp)] at j1
          rw [if_pos rfl] at j2
          have HJ := Aside0.mk (And.intro j1 j2)
          clear j1 j2
          go_wp2_with fail
          refine (HAL.out _ (by first | exact HBR.out | exact (HBR.out.alloc HBR.out.size _) | (repeat (first | exact HBR.out | apply Below.alloc)))).mono ?_
          rintro e w5 ⟨⟨A1, c1, A2, c2, rfl, hO1, hO2⟩, hb5⟩
          obtain ⟨ga, rfl, a1, a2, a3⟩ := id hO1
          obtain ⟨gb, rfl, b1, b2, b3⟩ := id hO2
          have hI5 := (HD4.out).below hb5
          have hF5 : Below W1.heap.size W1 w5 := HF4.out.trans (hb5.mono (by have := HF4.out.size; omega))
          have HI5 : Aside0 (OrdI w5 wb g1 g2 gt n RL0 (addR RA0 (XS.take 0) YS) V L ∧ OwnI w5 (wo.heap.size + 1) (some ⟨ga, 0, none⟩) XS ∧ OwnI w5 (wo.heap.size + 1) (some ⟨gb, 0, none⟩) YS ∧ wo.heap.size + 1 ≤ w5.heap.size ∧ Below W1.heap.size W1 w5) := ⟨by rw [List.take_zero, addR_nil]; exact hI5, by simpa using hO1, by simpa using hO2, by have := hb5.size; simp at this; omega, hF5⟩
          clear hI5 hF5 hO1 hO2 hb5 a1 a2 a3 b1 b2 b3
          go_wp2_with fail
          go_loopg [47] XS.length (fun gg i wr' => ∃ k1 : Nat, i = .int .i64 k1 ∧ k1 ≤ XS.length ∧ XS.length - k1 ≤ gg ∧ Aside0 (OrdI wr' wb g1 g2 gt n RL0 (addR RA0 (XS.take k1) YS) V L ∧ OwnI wr' (wo.heap.size + 1) (some ⟨ga, 0, none⟩) XS ∧ OwnI wr' (wo.heap.size + 1) (some ⟨gb, 0, none⟩) YS ∧ wo.heap.size + 1 ≤ wr'.heap.size ∧ Below W1.heap.size W1 wr'))
          case atStart => exact ⟨0, rfl, by omega, by omega, HI5⟩
          case round =>
            obtain ⟨k1, rfl, hk1, hg1, HE⟩ := hrel
            obtain ⟨wi, rfl⟩ : ∃ wi : World, wi = wr := ⟨_, rfl⟩
            by_cases hlt1 : (k1 : Int) < (XS.length : Int)
            · have hkx : k1 < XS.length := by omega
              obtain ⟨xa, hxa, exa⟩ := HXR.out.1 XS[k1] (List.getElem_mem hkx)
              have q1 : wi.cell? ⟨ga, k1, none⟩ = some (.int .i64 xa) := by
                obtain ⟨gx, e, _, _, hc⟩ := HE.out.2.1
                injection e with e
                injection e with e
                subst e
                rw [hc k1 hkx, exa]
              have k10 : (0 : Int) ≤ (k1 : Int) := by omega
              have HT1 : Aside0 (XS.take (k1 + 1) = XS.take k1 ++ [(xa : Int)]) := ⟨by rw [List.take_succ_eq_append_getElem hkx, exa]⟩
              have HE2 : Aside0 (OrdI wi wb g1 g2 gt n RL0 (addR (addR RA0 (XS.take k1) YS) [(xa : Int)] (YS.take 0)) V L ∧ OwnI wi (wo.heap.size + 1) (some ⟨ga, 0, none⟩) XS ∧ OwnI wi (wo.heap.size + 1) (some ⟨gb, 0, none⟩) YS ∧ wo.heap.size + 1 ≤ wi.heap.size ∧ Below W1.heap.size W1 wi) := ⟨by rw [List.take_zero, addR_none]; exact HE.out⟩
              clear exa
              go_wp2_with fail
              go_loopg [53] YS.length (fun gg i wr' => ∃ k2 : Nat, i = .int .i64 k2 ∧ k2 ≤ YS.length ∧ YS.length - k2 ≤ gg ∧ Aside0 (OrdI wr' wb g1 g2 gt n RL0 (addR (addR RA0 (XS.take k1) YS) [(xa : Int)] (YS.take k2)) V L ∧ OwnI wr' (wo.heap.size + 1) (some ⟨ga, 0, none⟩) XS ∧ OwnI wr' (wo.heap.size + 1) (some ⟨gb, 0, none⟩) YS ∧ wo.heap.size + 1 ≤ wr'.heap.size ∧ Below W1.heap.size W1 wr'))
              case atStart => exact ⟨0, rfl, by omega, by omega, HE2⟩
              case round =>
                obtain ⟨k2, rfl, hk2, hg2, HG⟩ := hrel
                by_cases hlt2 : (k2 : Int) < (YS.length : Int)
                · have hky : k2 < YS.length := by omega
                  obtain ⟨yb, hyb, eyb⟩ := HXR.out.2 YS[k2] (List.getElem_mem hky)
                  have q2 : wr.cell? ⟨gb, k2, none⟩ = some (.int .i64 yb) := by
                    obtain ⟨gx, e, _, _, hc⟩ := HG.out.2.2.1
                    injection e with e
                    injection e with e
                    subst e
                    rw [hc k2 hky, eyb]
                  have k20 : (0 : Int) ≤ (k2 : Int) := by omega
                  have r1 := HG.out.1.above.cell hxa
                  obtain ⟨r2, r3⟩ := HG.out.1.above.at hxa hyb
                  have xa0 : (0 : Int) ≤ (xa : Int) := by omega
                  have xan : (xa : Int) < (n : Int) := by omega
                  have yb0 : (0 : Int) ≤ (yb : Int) := by omega
                  have ybn : (yb : Int) < (n : Int) := by omega
                  have HT2 : Aside0 (YS.take (k2 + 1) = YS.take k2 ++ [(yb : Int)]) := ⟨by rw [List.take_succ_eq_append_getElem hky, eyb]⟩
                  have HST := Aside0.mk (HG.out.1.setA hxa hyb)
                  clear eyb
                  go_wp2_with fail
                  go_roundg (YS.length - (k2 + 1))
                  case measure => omega
                  case rel =>
                    have hfar := HG.out.1.far4
                    refine ⟨k2 + 1, by go_num, by omega, Nat.le_refl _, ⟨?_, HG.out.2.1.setCell (p := ⟨g2 + 1 + xa, yb, none⟩) (by have := HG.out.1.big; have := HBB.out; show g2 + 1 + xa < _; omega) _, HG.out.2.2.1.setCell (p := ⟨g2 + 1 + xa, yb, none⟩) (by have := HG.out.1.big; have := HBB.out; show g2 + 1 + xa < _; omega) _, by rw [World.size_setCell]; exact HG.out.2.2.2.1, Below.setCell (p := ⟨g2 + 1 + xa, yb, none⟩) HG.out.2.2.2.2 (by have := HLO.out; show _ ≤ g2 + 1 + xa; omega) _⟩⟩
                    rw [HT2.out, ← addR_setR]
                    exact HST.out
                · obtain rfl : k2 = YS.length := by omega
                  go_wp2_with fail
                  go_roundg (XS.length - (k1 + 1))
                  case measure => omega
                  case rel =>
                    refine ⟨k1 + 1, by go_num, by omega, Nat.le_refl _, ⟨?_, HG.out.2⟩⟩
                    rw [HT1.out, ← addR_more]
                    have := HG.out.1
                    rwa [List.take_length] at this
            · obtain rfl : k1 = XS.length := by omega
              go_wp2_with fail
              go_roundg (m - (k + 1))
              case measure => omega
              case rel =>
                refine ⟨k + 1, by go_num, HKM.out, Nat.le_refl _, ⟨?_, HE.out.2.2.2.2⟩⟩
                rw [HJ.out.1, HJ.out.2]
                have := HE.out.1
                rwa [List.take_length] at this
        | false =>
          rw [if_pos rfl] at j1
          rw [if_neg (by simp)] at j2
          have HJ := Aside0.mk (And.intro j1 j2)
          clear j1 j2
          go_wp2_with fail
          refine (HAL.out _ (by first | exact HBR.out | exact (HBR.out.alloc HBR.out.size _) | (repeat (first | exact HBR.out | apply Below.alloc)))).mono ?_
          rintro e w5 ⟨⟨A1, c1, A2, c2, rfl, hO1, hO2⟩, hb5⟩
          obtain ⟨ga, rfl, a1, a2, a3⟩ := id hO1
          obtain ⟨gb, rfl, b1, b2, b3⟩ := id hO2
          have hI5 := (HD4.out).below hb5
          have hF5 : Below W1.heap.size W1 w5 := HF4.out.trans (hb5.mono (by have := HF4.out.size; omega))
          have HI5 : Aside0 (OrdI w5 wb g1 g2 gt n (addR RL0 (XS.take 0) YS) RA0 V L ∧ OwnI w5 (wo.heap.size + 1) (some ⟨ga, 0, none⟩) XS ∧ OwnI w5 (wo.heap.size + 1) (some ⟨gb, 0, none⟩) YS ∧ wo.heap.size + 1 ≤ w5.heap.size ∧ Below W1.heap.size W1 w5) := ⟨by rw [List.take_zero, addR_nil]; exact hI5, by simpa using hO1, by simpa using hO2, by have := hb5.size; simp at this; omega, hF5⟩
          clear hI5 hF5 hO1 hO2 hb5 a1 a2 a3 b1 b2 b3
          go_wp2_with fail
          go_loopg [47] XS.length (fun gg i wr' => ∃ k1 : Nat, i = .int .i64 k1 ∧ k1 ≤ XS.length ∧ XS.length - k1 ≤ gg ∧ Aside0 (OrdI wr' wb g1 g2 gt n (addR RL0 (XS.take k1) YS) RA0 V L ∧ OwnI wr' (wo.heap.size + 1) (some ⟨ga, 0, none⟩) XS ∧ OwnI wr' (wo.heap.size + 1) (some ⟨gb, 0, none⟩) YS ∧ wo.heap.size + 1 ≤ wr'.heap.size ∧ Below W1.heap.size W1 wr'))
          case atStart => exact ⟨0, rfl, by omega, by omega, HI5⟩
          case round =>
            obtain ⟨k1, rfl, hk1, hg1, HE⟩ := hrel
            obtain ⟨wi, rfl⟩ : ∃ wi : World, wi = wr := ⟨_, rfl⟩
            by_cases hlt1 : (k1 : Int) < (XS.length : Int)
            · have hkx : k1 < XS.length := by omega
              obtain ⟨xa, hxa, exa⟩ := HXR.out.1 XS[k1] (List.getElem_mem hkx)
              have q1 : wi.cell? ⟨ga, k1, none⟩ = some (.int .i64 xa) := by
                obtain ⟨gx, e, _, _, hc⟩ := HE.out.2.1
                injection e with e
                injection e with e
                subst e
                rw [hc k1 hkx, exa]
              have k10 : (0 : Int) ≤ (k1 : Int) := by omega
              have HT1 : Aside0 (XS.take (k1 + 1) = XS.take k1 ++ [(xa : Int)]) := ⟨by rw [List.take_succ_eq_append_getElem hkx, exa]⟩
              have HE2 : Aside0 (OrdI wi wb g1 g2 gt n (addR (addR RL0 (XS.take k1) YS) [(xa : Int)] (YS.take 0)) RA0 V L ∧ OwnI wi (wo.heap.size + 1) (some ⟨ga, 0, none⟩) XS ∧ OwnI wi (wo.heap.size + 1) (some ⟨gb, 0, none⟩) YS ∧ wo.heap.size + 1 ≤ wi.heap.size ∧ Below W1.heap.size W1 wi) := ⟨by rw [List.take_zero, addR_none]; exact HE.out⟩
              clear exa
              go_wp2_with fail
              go_loopg [53] YS.length (fun gg i wr' => ∃ k2 : Nat, i = .int .i64 k2 ∧ k2 ≤ YS.length ∧ YS.length - k2 ≤ gg ∧ Aside0 (OrdI wr' wb g1 g2 gt n (addR (addR RL0 (XS.take k1) YS) [(xa : Int)] (YS.take k2)) RA0 V L ∧ OwnI wr' (wo.heap.size + 1) (some ⟨ga, 0, none⟩) XS ∧ OwnI wr' (wo.heap.size + 1) (some ⟨gb, 0, none⟩) YS ∧ wo.heap.size + 1 ≤ wr'.heap.size ∧ Below W1.heap.size W1 wr'))
              case atStart => exact ⟨0, rfl, by omega, by omega, HE2⟩
              case round =>
                obtain ⟨k2, rfl, hk2, hg2, HG⟩ := hrel
                by_cases hlt2 : (k2 : Int) < (YS.length : Int)
                · have hky : k2 < YS.length := by omega
                  obtain ⟨yb, hyb, eyb⟩ := HXR.out.2 YS[k2] (List.getElem_mem hky)
                  have q2 : wr.cell? ⟨gb, k2, none⟩ = some (.int .i64 yb) := by
                    obtain ⟨gx, e, _, _, hc⟩ := HG.out.2.2.1
                    injection e with e
                    injection e with e
                    subst e
                    rw [hc k2 hky, eyb]
                  have k20 : (0 : Int) ≤ (k2 : Int) := by omega
                  have r1 := HG.out.1.left.cell hxa
                  obtain ⟨r2, r3⟩ := HG.out.1.left.at hxa hyb
                  have xa0 : (0 : Int) ≤ (xa : Int) := by omega
                  have xan : (xa : Int) < (n : Int) := by omega
                  have yb0 : (0 : Int) ≤ (yb : Int) := by omega
                  have ybn : (yb : Int) < (n : Int) := by omega
                  have HT2 : Aside0 (YS.take (k2 + 1) = YS.take k2 ++ [(yb : Int)]) := ⟨by rw [List.take_succ_eq_append_getElem hky, eyb]⟩
                  have HST := Aside0.mk (HG.out.1.setL hxa hyb)
                  clear eyb
                  go_wp2_with fail
                  go_roundg (YS.length - (k2 + 1))
                  case measure => omega
                  case rel =>
                    have hfar := HG.out.1.far4
                    refine ⟨k2 + 1, by go_num, by omega, Nat.le_refl _, ⟨?_, HG.out.2.1.setCell (p := ⟨g1 + 1 + xa, yb, none⟩) (by have := HG.out.1.big; have := HBB.out; show g1 + 1 + xa < _; omega) _, HG.out.2.2.1.setCell (p := ⟨g1 + 1 + xa, yb, none⟩) (by have := HG.out.1.big; have := HBB.out; show g1 + 1 + xa < _; omega) _, by rw [World.size_setCell]; exact HG.out.2.2.2.1, Below.setCell (p := ⟨g1 + 1 + xa, yb, none⟩) HG.out.2.2.2.2 (by have := HLO.out; show _ ≤ g1 + 1 + xa; omega) _⟩⟩
                    rw [HT2.out, ← addR_setR]
                    exact HST.out
                · obtain rfl : k2 = YS.length := by omega
                  go_wp2_with fail
                  go_roundg (XS.length - (k1 + 1))
                  case measure => omega
                  case rel =>
                    refine ⟨k1 + 1, by go_num, by omega, Nat.le_refl _, ⟨?_, HG.out.2⟩⟩
                    rw [HT1.out, ← addR_more]
                    have := HG.out.1
                    rwa [List.take_length] at this
            · obtain rfl : k1 = XS.length := by omega
              go_wp2_with fail
              go_roundg (m - (k + 1))
              case measure => omega
              case rel =>
                refine ⟨k + 1, by go_num, HKM.out, Nat.le_refl _, ⟨?_, HE.out.2.2.2.2⟩⟩
                rw [HJ.out.1, HJ.out.2]
                have := HE.out.1
                rwa [List.take_length] at this
      · have hke : k = m := by omega
        have hdone := HD.out
        rw [hke, show L.take m = L by rw [← HM.out, List.take_length]] at hdone
        have HD9 := Aside0.mk hdone
        have HCL1 := Aside0.mk (close_any g1 n hn9 (justB cl false L) wo hdone.1.left)
        have p0 := (pair_zero hdone.1.pair).1
        have p1 := (pair_zero hdone.1.pair).2.1
        clear hdone hke
        go_wp2_with fail
        refine HCL1.out.mono ?_
        rintro e w7 ⟨rfl, r7, k7⟩
        have hgt7 := (HD9.out.1.far2.elim (fun h => k7.1.block gt h) (fun h => k7.2 gt h)).trans HD9.out.1.pair
        have hab7 : RelW w7 g2 n (justB cl true L) := HD9.out.1.above.keep fun k a b => k7.2 k (by have := HD9.out.1.far1; omega)
        have HCL2 := Aside0.mk (close_any g2 n hn9 _ w7 hab7)
        have q0 := (pair_zero hgt7).1
        have q1 := (pair_zero hgt7).2.1
        have H7 := Aside0.mk (And.intro r7 (And.intro k7 hgt7))
        clear r7 k7 hgt7 hab7 p0 p1
        go_wp2_with fail
        refine HCL2.out.mono ?_
        rintro e w8 ⟨rfl, r8, k8⟩
        have hgt8 := (HD9.out.1.far3.elim (fun h => k8.1.block gt h) (fun h => k8.2 gt h)).trans H7.out.2.2
        have hl8 : RelW w8 g1 n (kRound n (justB cl false L) n) := H7.out.1.keep fun k a b => k8.1.block k (by have := HD9.out.1.far1; omega)
        have hres : w8.heap[w.heap.size]? = some (.cells #[.slice none 0 0, .slice none 0 0] 101 (0, 0)) := by
          have h1 := HLO.out
          have h2 := HB1.out.2.1
          rw [k8.1.block _ (by omega), H7.out.2.1.1.block _ (by omega), HD9.out.2.block _ (by omega)]
          exact HB1.out.2.2
        obtain ⟨z0, z1, z2, z3⟩ := pair_zero hres
        have s0 := (pair_zero hgt8).1
        have s1 := (pair_zero hgt8).2.1
        have HBF : Aside0 (Below w.heap.size w w8) := ⟨by
          have h1 := HLO.out
          have h2 := HB1.out.2.1
          exact HB1.out.1.trans ((HD9.out.2.trans ((H7.out.2.1.1.mono (by omega)).trans (k8.1.mono (by omega)))).mono (by omega))⟩
        have H8 := Aside0.mk (And.intro hl8 r8)
        clear hgt8 hl8 r8 k8 q0 q1
        have HRES := Aside0.mk hres
        clear hres
        go_wp2_with fail
        obtain ⟨wf, hwf⟩ : ∃ wf, ((w8.setCell ⟨w.heap.size, 0, none⟩ (.slice (some ⟨g1, 0, none⟩) n n)).setCell ⟨w.heap.size, 1, none⟩ (.slice (some ⟨g2, 0, none⟩) n n)) = wf := ⟨_, rfl⟩
        rw [hwf]
        have hfin : wf.heap[w.heap.size]? = some (.cells #[.slice (some ⟨g1, 0, none⟩) n n, .slice (some ⟨g2, 0, none⟩) n n] 101 (0, 0)) := by rw [← hwf]; exact (two_set (two_set HRES.out _).1 _).2
        have ne : ∀ k, k ≠ w.heap.size → wf.heap[k]? = w8.heap[k]? := fun k hk => by rw [← hwf]; exact (Below.heap_setCell _ _ _ _ hk).trans (Below.heap_setCell _ _ _ _ hk)
        have hbf : Below w.heap.size w wf := by rw [← hwf]; exact below_store2 HBF.out (Nat.le_refl _)
        have h1 := HLO.out
        have h2 := HB1.out.2.1
        refine bodyPost_ret (results_cell_row rfl _ _ w.heap.size 101 _ _ _ rfl hfin Try.underlying101 rfl (by kernel_rfl)) rfl ?_
        rw [HLL.out]
        exact ⟨⟨g1, g2, rfl, by omega, by omega, H8.out.1.keep fun k a b => ne k (by omega), H8.out.2.keep fun k a b => ne k (by omega)⟩, hbf⟩
end Go.Proofs.Ytdhnjecbdclmaaa
