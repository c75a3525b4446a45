/- The function that 'settled' hands to 'blank': one step of the scan. Conditions: small numbers. -/
import Derived.Test.YtbpppchkgjcahaaKFIoM
import Derived.StillTailTactics
import Derived.Lib.Builder
namespace Go.Proofs.Ytbpppchkgjcahaa
open Go.RowKit Go.Shelf Go.Proofs.YtbpppchkgjcahaaW.PrintWords Go.Proofs.YtbpppchkgjcahaaW.PrintMore
set_option linter.unusedVariables false
set_option linter.unusedSimpArgs false
def boxCells (b : Box) : List Value := [.int .i64 b.1, .int .i64 b.2.1, .int .i64 b.2.2.1, .int .i64 b.2.2.2]
def boxesV (l : List Box) : List Value := l.flatMap boxCells
theorem boxesV_len (l : List Box) : (boxesV l).length = l.length * 4 := by
  unfold boxesV
  induction l with
  | nil => rfl
  | cons a t ih => rw [List.flatMap_cons, List.length_append, ih]; simp [boxCells]; omega
theorem boxesV_get (l : List Box) (k : Nat) (hk : k < l.length) : ∀ i, i < 4 → (boxesV l)[k * 4 + i]? = (boxCells l[k])[i]? := by
  induction l generalizing k with
  | nil => exact absurd hk (by simp)
  | cons a t ih =>
    intro i hi
    have e : boxesV (a :: t) = boxCells a ++ boxesV t := rfl
    rw [e]
    cases k with
    | zero =>
      rw [List.getElem?_append_left (by simp [boxCells]; omega)]
      simp
    | succ k =>
      rw [List.getElem?_append_right (by simp [boxCells]; omega)]
      have := ih k (by simpa using hk) i hi
      rw [show (k + 1) * 4 + i - (boxCells a).length = k * 4 + i by simp [boxCells]; omega, this]
      simp
def Rooms (W : World) (base : Nat) (rv : Value) (l : List Box) : Prop := W.ownsRow base 73 4 rv l.length (boxesV l)
theorem Rooms.form {W : World} {base : Nat} {rv : Value} {l : List Box} (h : Rooms W base rv l) (h0 : 0 < l.length) : ∃ rg c, rv = .slice (some ⟨rg, 0, none⟩) l.length c ∧ l.length ≤ c ∧ base ≤ rg ∧ rg < W.heap.size ∧ (∃ cs, W.heap[rg]? = some (.cells cs 73 (0, 0))) ∧
    ∀ k (hk : k < l.length), W.cell? ⟨rg, k * 4, none⟩ = some (.int .i64 l[k].1) ∧ W.cell? ⟨rg, k * 4 + 1, none⟩ = some (.int .i64 l[k].2.1) ∧ W.cell? ⟨rg, k * 4 + 2, none⟩ = some (.int .i64 l[k].2.2.1) ∧ W.cell? ⟨rg, k * 4 + 3, none⟩ = some (.int .i64 l[k].2.2.2) := by
  rcases h.2 with ⟨_, e⟩ | ⟨g, c, cur, e, hg, hh, hc, _⟩
  · omega
  · subst e
    refine ⟨g, c, rfl, hc, hg, (h.lt g rfl).2, ⟨cur, hh⟩, fun k hk => ?_⟩
    have key : ∀ i, i < 4 → ∀ v, (boxCells l[k])[i]? = some v → W.cell? ⟨g, k * 4 + i, none⟩ = some v := by
      intro i hi v hv
      have hc := h.cells (g := g) rfl (k * 4 + i) v (by rw [boxesV_get l k hk i hi, hv])
      rwa [add_plain] at hc
    exact ⟨key 0 (by omega) _ rfl, key 1 (by omega) _ rfl, key 2 (by omega) _ rfl, key 3 (by omega) _ rfl⟩
theorem boxesV_append (a b : List Box) : boxesV (a ++ b) = boxesV a ++ boxesV b := by unfold boxesV; rw [List.flatMap_append]
theorem cut_mid {α : Type} (A B C X : List α) : A ++ (X ++ C) = (A ++ (B ++ C)).take A.length ++ X ++ (A ++ (B ++ C)).drop (A.length + B.length) := by
  simp [List.drop_append]
theorem splice_take {α : Type} (L vs : List α) (o N : Nat) (h : o + vs.length ≤ N) (hN : N ≤ L.length) : (L.take o ++ vs ++ L.drop (o + vs.length)).take N = (L.take N).take o ++ vs ++ (L.take N).drop (o + vs.length) := by
  have l1 : (L.take o).length = o := by rw [List.length_take]; omega
  rw [List.append_assoc, List.take_append, List.take_append, l1, List.take_take, List.take_take, Nat.min_eq_right (by omega), Nat.min_eq_left (by omega), List.take_of_length_le (show vs.length ≤ N - o by omega), List.drop_take, List.append_assoc]
  congr 3
  omega
theorem boxesV_set (l : List Box) (k : Nat) (hk : k < l.length) (b : Box) : boxesV (l.set k b) = (boxesV l).take (k * 4) ++ boxCells b ++ (boxesV l).drop (k * 4 + 4) := by
  have e1 : l = l.take k ++ ([l[k]] ++ l.drop (k + 1)) := by
    rw [List.singleton_append, List.getElem_cons_drop, List.take_append_drop]
  have e2 : l.set k b = l.take k ++ ([b] ++ l.drop (k + 1)) := by
    rw [List.set_eq_take_append_cons_drop, if_pos hk]; rfl
  have l1 : (boxesV (l.take k)).length = k * 4 := by rw [boxesV_len, List.length_take, Nat.min_eq_left (by omega)]
  have hb : ∀ x : Box, boxesV [x] = boxCells x := fun x => by simp [boxesV]
  have e3 : boxesV l = boxesV (l.take k) ++ (boxCells l[k] ++ boxesV (l.drop (k + 1))) := by
    conv => lhs; rw [e1]
    rw [boxesV_append, boxesV_append, hb]
  have hc := cut_mid (boxesV (l.take k)) (boxCells l[k]) (boxesV (l.drop (k + 1))) (boxCells b)
  rw [l1, show (boxCells l[k]).length = 4 from rfl, ← e3] at hc
  rw [e2, boxesV_append, boxesV_append, hb, hc]
theorem Rooms.set {W : World} {base rg n c : Nat} {l : List Box} (h : Rooms W base (.slice (some ⟨rg, 0, none⟩) n c) l) (k : Nat) (hk : k < l.length) (b : Box) :
    Rooms ((((W.setCell ⟨rg, k * 4, none⟩ (.int .i64 b.1)).setCell ⟨rg, k * 4 + 1, none⟩ (.int .i64 b.2.1)).setCell ⟨rg, k * 4 + 2, none⟩ (.int .i64 b.2.2.1)).setCell ⟨rg, k * 4 + 3, none⟩ (.int .i64 b.2.2.2)) base (.slice (some ⟨rg, 0, none⟩) n c) (l.set k b) := by
  show Rooms (W.setCells rg (k * 4) (boxCells b)) base _ _
  obtain ⟨h1, h2⟩ := h
  rcases h2 with ⟨e, _⟩ | ⟨g, cap, cur, e, hg, hh, hc, hm, hs, ht⟩
  · cases e
  · injection e with e1 e2 e3
    injection e1 with e1
    injection e1 with e1
    subst e1 e2 e3
    have hl2 : k * 4 + 4 ≤ l.length * 4 := by omega
    obtain ⟨cur', p1, p2, p3⟩ := setCells_row (boxCells b) (k * 4) W cur hh (by show k * 4 + 4 ≤ cur.size; rw [hs]; omega)
    refine ⟨by rw [boxesV_len], .inr ⟨rg, c, cur', by rw [List.length_set], hg, p1, by rw [List.length_set]; exact hc, hm, by rw [p2, hs], ?_⟩⟩
    have lc : cur.toList.length = c * 4 := by rw [Array.length_toList, hs]
    rw [p3, List.length_set, boxesV_set l k hk b, ← ht, splice_take _ _ _ _ hl2 (by omega)]
    rfl
theorem set4_far (W : World) (rg o : Nat) (b : Box) (j : Nat) (hj : j ≠ rg) : ((((W.setCell ⟨rg, o, none⟩ (.int .i64 b.1)).setCell ⟨rg, o + 1, none⟩ (.int .i64 b.2.1)).setCell ⟨rg, o + 2, none⟩ (.int .i64 b.2.2.1)).setCell ⟨rg, o + 3, none⟩ (.int .i64 b.2.2.2)).heap[j]? = W.heap[j]? := by
  show (W.setCells rg o (boxCells b)).heap[j]? = _
  exact setCells_far _ _ _ hj
theorem set4_below {base : Nat} {W0 W : World} (h : Below base W0 W) (rg o : Nat) (hr : base ≤ rg) (b : Box) : Below base W0 ((((W.setCell ⟨rg, o, none⟩ (.int .i64 b.1)).setCell ⟨rg, o + 1, none⟩ (.int .i64 b.2.1)).setCell ⟨rg, o + 2, none⟩ (.int .i64 b.2.2.1)).setCell ⟨rg, o + 3, none⟩ (.int .i64 b.2.2.2)) :=
  (((h.setCell (p := ⟨rg, o, none⟩) hr _).setCell (p := ⟨rg, o + 1, none⟩) hr _).setCell (p := ⟨rg, o + 2, none⟩) hr _).setCell (p := ⟨rg, o + 3, none⟩) hr _
structure Clos (base b6 b1 b5 fb mb gb h ch : Nat) (s : Scan) (W : World) : Prop where
  n6 : W.heap[b6]? = some (.cells #[.map (some mb)] 196 (0, 0))
  n1 : W.heap[b1]? = some (.cells #[.slice (some ⟨gb, 0, none⟩) h ch] 65 (0, 0))
  n5 : W.heap[b5]? = some (.cells #[.pointer (some ⟨fb, 0, none⟩)] 61 (0, 0))
  rooms : ∃ rv, W.heap[fb]? = some (.cells #[.slice none 0 0, rv] 68 (0, 0)) ∧ Rooms W base rv s.2
  map : MapOf W mb s.1
  len : s.1.length = s.2.length
  lef : base ≤ fb
  lem : base ≤ mb
def KeptC (W W' : World) : Prop := ∀ (j : Nat) (cs : Array Value) (t : Nat), W.heap[j]? = some (Obj.cells cs t (0, 0)) → t ≠ 68 → t ≠ 73 → W'.heap[j]? = W.heap[j]?
set_option maxRecDepth 100000 in
set_option maxHeartbeats 8000000 in
theorem clos_old (base b6 b1 b5 fb mb gb rb h ch wd cr : Nat) (s : Scan) (r c : Nat) (x : Int) (W : World) (H : Clos base b6 b1 b5 fb mb gb h ch s W)
    (hr : r < h) (hc : c < wd) (hh : h ≤ 100) (hw : wd ≤ 100) (hx : 0 ≤ x ∧ x ≤ 1000) (hin : x ∈ s.1) (hl : s.1.length ≤ 100) (hbox : ∀ b ∈ s.2, BoxIn b)
    (g1 : W.cell? ⟨gb, r, none⟩ = some (.slice (some ⟨rb, 0, none⟩) wd cr)) (g2 : W.cell? ⟨rb, c, none⟩ = some (.int .i64 x)) :
    Calls Try.prog 201 #[.int .i64 r, .int .i64 c, .pointer (some ⟨b6, 0, none⟩), .pointer (some ⟨b1, 0, none⟩), .pointer (some ⟨b5, 0, none⟩)] W fun e w' =>
      e = .returned (.int .i64 (s.1.idxOf x : Nat)) ∧ Clos base b6 b1 b5 fb mb gb h ch (stepX s (r, c, 1, 1) x) w' ∧ Below base W w' ∧ KeptC W w' := by
  obtain ⟨n6, n1, n5, ⟨rv, nf, hro⟩, hm, hlen, hlf, hlm⟩ := H
  have hk : s.1.idxOf x < s.2.length := by rw [← hlen]; exact List.idxOf_lt_length_of_mem hin
  obtain ⟨k, hkk⟩ : ∃ k, s.1.idxOf x = k := ⟨_, rfl⟩
  obtain ⟨rg, rc, rfl, hlc, hbr, hrl, ⟨rcs, hrg⟩, hcell⟩ := hro.form (by omega)
  rw [hkk] at hk ⊢
  have hcell' := hcell k hk
  have hbk' := hbox _ (List.getElem_mem hk)
  have hgd : s.2.getD k (0, 0, 0, 0) = s.2[k] := by rw [List.getD_eq_getElem?_getD, List.getElem?_eq_getElem hk]; rfl
  obtain ⟨⟨d0, d1, d2, d3⟩, hbk⟩ : ∃ b, s.2[k] = b := ⟨_, rfl⟩
  rw [hbk] at hcell' hbk' hgd
  obtain ⟨e0, e1, e2, e3⟩ := hcell'
  have c6 : W.cell? ⟨b6, 0, none⟩ = some (.map (some mb)) := by rw [Lib.cell_of_heap n6]; rfl
  have c1 : W.cell? ⟨b1, 0, none⟩ = some (.slice (some ⟨gb, 0, none⟩) h ch) := by rw [Lib.cell_of_heap n1]; rfl
  have c5 : W.cell? ⟨b5, 0, none⟩ = some (.pointer (some ⟨fb, 0, none⟩)) := by rw [Lib.cell_of_heap n5]; rfl
  have cf : W.cell? ⟨fb, 1, none⟩ = some (.slice (some ⟨rg, 0, none⟩) s.2.length rc) := by rw [Lib.cell_of_heap nf]; rfl
  have lk : ∀ n, (Instr.lookup 196 (.map (some mb)) (.int .i64 x) true).run Try.prog (W.drewN n) = .ok (.tuple #[.int .i64 (k : Nat), .bool true]) (W.drewN n) := fun n => by
    have h := (hm.move (W' := W.drewN n) rfl).look hx
    rw [if_pos hin, decide_eq_true hin, hkk] at h
    exact h
  have lk1 := lk 1
  have hr0 : (0 : Int) ≤ (r : Int) := by omega
  have hr1 : (r : Int) < (h : Int) := by omega
  have hc0 : (0 : Int) ≤ (c : Int) := by omega
  have hc1 : (c : Int) < (wd : Int) := by omega
  have hk0 : (0 : Int) ≤ (k : Int) := by omega
  have hk1 : (k : Int) < (s.2.length : Int) := by omega
  have HK := Aside0.mk hkk
  have HKL := Aside0.mk hk
  have HB := Aside0.mk hbox
  have HM := Aside0.mk hm
  have HRO := Aside0.mk hro
  have H6 := Aside0.mk n6
  have H1 := Aside0.mk n1
  have H5 := Aside0.mk n5
  have HF := Aside0.mk nf
  have HIN := Aside0.mk hin
  have HRG := Aside0.mk hrg
  have HLEN := Aside0.mk hlen
  have HGD := Aside0.mk hgd
  have HBK := Aside0.mk hbk'
  have ne5 : b5 ≠ rg := fun e => by rw [e, hrg] at n5; injection n5 with n5; injection n5 with _ n5; exact absurd n5 (by decide)
  have nef : fb ≠ rg := fun e => by rw [e, hrg] at nf; injection nf with nf; injection nf with _ nf; exact absurd nf (by decide)
  have zr : ∀ j, W.frozen? ⟨rg, j, none⟩ = false := fun j => Lib.frozen_of_heap hrg j
  have l5 : b5 < W.heap.size := (Array.getElem?_eq_some_iff.1 n5).1
  have lf : fb < W.heap.size := (Array.getElem?_eq_some_iff.1 nf).1
  have HZR := Aside0.mk zr
  have HL5 := Aside0.mk l5
  have HLF := Aside0.mk lf
  have HRL := Aside0.mk hrl
  have HCR : Aside0 (BoxIn ((r : Int), (c : Int), 1, 1)) := ⟨⟨by dsimp only; omega, by dsimp only; omega, by dsimp only; omega, by dsimp only; omega⟩⟩
  clear zr l5 lf hrl
  clear hkk hbox hm hro n6 n1 n5 nf hin hrg hlen hcell hbk hbk' hgd hk
  go_enter Try.func201, Try.ntmps201
  go_wp2
  go_quiet (fail)
  go_wp2
  first | refine wp_region_noPanic ?_ | skip
  refine wp_region_held_drew (S := (fun w' => w'.cell? ⟨b5, 0, none⟩ = some (.pointer (some ⟨fb, 0, none⟩)) ∧ w'.cell? ⟨fb, 1, none⟩ = some (.slice (some ⟨rg, 0, none⟩) s.2.length rc))) (by kernel_rfl) ?_ (fun hHeld => ?_)
  · ((try dsimp only); (first | exact ⟨c5, cf⟩ | exact ⟨c5x, cfx⟩ | (go_simp)))
  refine wpAnyH_take (i := 0) (oi := _) (v := ?_) rfl (by kernel_rfl) (by kernel_rfl) (by kernel_rfl) (fun _ _ _ h => h) (Or.inl ⟨by rfl, ?_⟩) (by assumption) ?_
  rotate_left
  · (intro w hSw; (try dsimp only at hSw); go_simp; try with_reducible rfl)
  try simp only [Act.put, List.setIfInBounds_toArray, List.set_cons_zero, List.set_cons_succ]
  refine wpAnyH_take (i := 1) (oi := _) (v := ?_) rfl (by kernel_rfl) (by kernel_rfl) (by kernel_rfl) (fun _ _ _ h => h) (Or.inl ⟨by rfl, ?_⟩) (by assumption) ?_
  rotate_left
  · (intro w hSw; (try dsimp only at hSw); go_simp; try with_reducible rfl)
  try simp only [Act.put, List.setIfInBounds_toArray, List.set_cons_zero, List.set_cons_succ]
  refine wpAnyH_take (i := 2) (oi := _) (v := ?_) rfl (by kernel_rfl) (by kernel_rfl) (by kernel_rfl) (fun _ _ _ h => h) (Or.inl ⟨by rfl, ?_⟩) (by assumption) ?_
  rotate_left
  · (intro w hSw; (try dsimp only at hSw); go_simp; try with_reducible rfl)
  try simp only [Act.put, List.setIfInBounds_toArray, List.set_cons_zero, List.set_cons_succ]
  refine wpAnyH_take (i := 3) (oi := _) (v := ?_) rfl (by kernel_rfl) (by kernel_rfl) (by kernel_rfl) (fun _ _ _ h => h) (Or.inl ⟨by rfl, ?_⟩) (by assumption) ?_
  rotate_left
  · (intro w hSw; (try dsimp only at hSw); go_simp; try with_reducible rfl)
  try simp only [Act.put, List.setIfInBounds_toArray, List.set_cons_zero, List.set_cons_succ]
  refine wpAnyH_take (i := 4) (oi := _) (v := ?_) rfl (by kernel_rfl) (by kernel_rfl) (by kernel_rfl) (fun _ _ _ h => h) (Or.inl ⟨by rfl, ?_⟩) (by assumption) ?_
  rotate_left
  · (intro w hSw; (try dsimp only at hSw); go_simp; try with_reducible rfl)
  try simp only [Act.put, List.setIfInBounds_toArray, List.set_cons_zero, List.set_cons_succ]
  refine wpAnyH_take (i := 5) (oi := _) (v := ?_) rfl (by kernel_rfl) (by kernel_rfl) (by kernel_rfl) (fun _ _ _ h => h) (Or.inl ⟨by rfl, ?_⟩) (by assumption) ?_
  rotate_left
  · (intro w hSw; (try dsimp only at hSw); go_simp; try with_reducible rfl)
  try simp only [Act.put, List.setIfInBounds_toArray, List.set_cons_zero, List.set_cons_succ]
  refine wpAnyH_take (i := 6) (oi := _) (v := ?_) rfl (by kernel_rfl) (by kernel_rfl) (by kernel_rfl) (fun _ _ _ h => h) (Or.inl ⟨by rfl, ?_⟩) (by assumption) ?_
  rotate_left
  · (intro w hSw; (try dsimp only at hSw); go_simp; try with_reducible rfl)
  try simp only [Act.put, List.setIfInBounds_toArray, List.set_cons_zero, List.set_cons_succ]
  refine wpAnyH_take (i := 7) (oi := _) (v := ?_) rfl (by kernel_rfl) (by kernel_rfl) (by kernel_rfl) (fun _ _ _ h => h) (Or.inl ⟨by rfl, ?_⟩) (by assumption) ?_
  rotate_left
  · (intro w hSw; (try dsimp only at hSw); go_simp; try with_reducible rfl)
  try simp only [Act.put, List.setIfInBounds_toArray, List.set_cons_zero, List.set_cons_succ]
  refine wpAnyH_take (i := 8) (oi := _) (v := ?_) rfl (by kernel_rfl) (by kernel_rfl) (by kernel_rfl) (fun _ _ _ h => h) (Or.inl ⟨by rfl, ?_⟩) (by assumption) ?_
  rotate_left
  · (intro w hSw; (try dsimp only at hSw); go_simp; try with_reducible rfl)
  try simp only [Act.put, List.setIfInBounds_toArray, List.set_cons_zero, List.set_cons_succ]
  refine wpAnyH_take (i := 9) (oi := _) (v := ?_) rfl (by kernel_rfl) (by kernel_rfl) (by kernel_rfl) (fun _ _ _ h => h) (Or.inl ⟨by rfl, ?_⟩) (by assumption) ?_
  rotate_left
  · (intro w hSw; (try dsimp only at hSw); go_simp; try with_reducible rfl)
  try simp only [Act.put, List.setIfInBounds_toArray, List.set_cons_zero, List.set_cons_succ]
  refine wpAnyH_take (i := 10) (oi := _) (v := ?_) rfl (by kernel_rfl) (by kernel_rfl) (by kernel_rfl) (fun _ _ _ h => h) (Or.inl ⟨by rfl, ?_⟩) (by assumption) ?_
  rotate_left
  · (intro w hSw; (try dsimp only at hSw); go_simp; try with_reducible rfl)
  try simp only [Act.put, List.setIfInBounds_toArray, List.set_cons_zero, List.set_cons_succ]
  refine wpAnyH_take (i := 12) (oi := _) (v := ?_) rfl (by kernel_rfl) (by kernel_rfl) (by kernel_rfl) (fun _ _ _ h => h) (Or.inl ⟨by rfl, ?_⟩) (by assumption) ?_
  rotate_left
  · (intro w hSw; (try dsimp only at hSw); go_simp; try with_reducible rfl)
  try simp only [Act.put, List.setIfInBounds_toArray, List.set_cons_zero, List.set_cons_succ]
  refine wpAnyH_take (i := 13) (oi := _) (v := ?_) rfl (by kernel_rfl) (by kernel_rfl) (by kernel_rfl) (fun _ _ _ h => h) (Or.inl ⟨by rfl, ?_⟩) (by assumption) ?_
  rotate_left
  · (intro w hSw; (try dsimp only at hSw); go_simp; try with_reducible rfl)
  try simp only [Act.put, List.setIfInBounds_toArray, List.set_cons_zero, List.set_cons_succ]
  refine wpAnyH_take (i := 14) (oi := _) (v := ?_) rfl (by kernel_rfl) (by kernel_rfl) (by kernel_rfl) (fun _ _ _ h => h) (Or.inl ⟨by rfl, ?_⟩) (by assumption) ?_
  rotate_left
  · (intro w hSw; (try dsimp only at hSw); go_simp; try with_reducible rfl)
  try simp only [Act.put, List.setIfInBounds_toArray, List.set_cons_zero, List.set_cons_succ]
  refine wpAnyH_ready (rs := [11]) (by kernel_rfl) (by simp) ?_
  refine AllReadyH.cons (o := _) rfl (fun K hK => ?_) AllReadyH.nil
  go_simp
  refine hK.out _ _ ?_ (fun hHeld => ?_)
  · ((try dsimp only); (first | exact ⟨c5, cf⟩ | exact ⟨c5x, cfx⟩ | (go_simp)))
  clear hK K
  try simp only [Act.put, List.setIfInBounds_toArray, List.set_cons_zero, List.set_cons_succ]
  refine wpAnyH_ready (rs := [15]) (by kernel_rfl) (by simp) ?_
  refine AllReadyH.cons (o := _) rfl (fun K hK => ?_) AllReadyH.nil
  (go_simp; go_at_call 178; refine Calls.mono (both_any (d0, d1, d2, d3) (r, c, 1, 1) HBK.out HCR.out _) ?_; rintro e w3 ⟨rfl, hb3⟩; have HB3 := Aside0.mk hb3; have c5x := (hb3.cell (p := ⟨b5, 0, none⟩) HL5.out).trans c5; have cfx := (hb3.cell (p := ⟨fb, 1, none⟩) HLF.out).trans cf; have zx : ∀ j, w3.frozen? ⟨rg, j, none⟩ = false := fun j => (hb3.frozen (p := ⟨rg, j, none⟩) HRL.out).trans (HZR.out j); have e0x := (hb3.cell (p := ⟨rg, k * 4, none⟩) HRL.out).trans e0; have e1x := (hb3.cell (p := ⟨rg, k * 4 + 1, none⟩) HRL.out).trans e1; have e2x := (hb3.cell (p := ⟨rg, k * 4 + 2, none⟩) HRL.out).trans e2; have e3x := (hb3.cell (p := ⟨rg, k * 4 + 3, none⟩) HRL.out).trans e3; clear hb3; unfold boxV; dsimp only)
  refine hK.out _ _ ?_ (fun hHeld => ?_)
  · ((try dsimp only); (first | exact ⟨c5, cf⟩ | exact ⟨c5x, cfx⟩ | (go_simp)))
  clear hK K
  try simp only [Act.put, List.setIfInBounds_toArray, List.set_cons_zero, List.set_cons_succ]
  refine wpAnyH_take (i := 16) (oi := _) (v := ?_) rfl (by kernel_rfl) (by kernel_rfl) (by kernel_rfl) (fun _ _ _ h => h) (Or.inl ⟨by rfl, ?_⟩) (by assumption) ?_
  rotate_left
  · (intro w hSw; (try dsimp only at hSw); go_simp; try with_reducible rfl)
  try simp only [Act.put, List.setIfInBounds_toArray, List.set_cons_zero, List.set_cons_succ]
  refine wpAnyH_ready (rs := [17]) (by kernel_rfl) (by simp) ?_
  refine AllReadyH.cons (o := _) rfl (fun K hK => ?_) AllReadyH.nil
  go_simp
  refine hK.out _ _ ?_ (fun hHeld => ?_)
  · ((try dsimp only); (first | exact ⟨c5, cf⟩ | exact ⟨c5x, cfx⟩ | (go_simp)))
  clear hK K
  try simp only [Act.put, List.setIfInBounds_toArray, List.set_cons_zero, List.set_cons_succ]
  refine wpAnyH_done (by kernel_rfl) ?_ _
  first | refine NoPanic.normal ?_ | skip
  go_wp2
  go_ret
  have hE : stepX s (r, c, 1, 1) x = (s.1, s.2.set k (bothB (d0, d1, d2, d3) (r, c, 1, 1))) := by
    unfold stepX addX
    rw [if_pos HIN.out, HK.out, HGD.out]
  have hW3 : ∀ j, j < W.heap.size → w3.heap[j]? = W.heap[j]? := fun j hj => HB3.out.block j hj
  have hRO3 : Rooms w3 base (.slice (some ⟨rg, 0, none⟩) s.2.length rc) s.2 := own_move HRO.out (fun j hj => hW3 j (HRO.out.lt j hj).2)
  have hfar : ∀ j o, j < W.heap.size → j ≠ rg → W.heap[j]? = o → ((((w3.setCell ⟨rg, k * 4, none⟩ (.int .i64 (bothB (d0, d1, d2, d3) (r, c, 1, 1)).1)).setCell ⟨rg, k * 4 + 1, none⟩ (.int .i64 (bothB (d0, d1, d2, d3) (r, c, 1, 1)).2.1)).setCell ⟨rg, k * 4 + 2, none⟩ (.int .i64 (bothB (d0, d1, d2, d3) (r, c, 1, 1)).2.2.1)).setCell ⟨rg, k * 4 + 3, none⟩ (.int .i64 (bothB (d0, d1, d2, d3) (r, c, 1, 1)).2.2.2)).heap[j]? = o :=
    fun j o hj hne ho => by rw [set4_far _ _ _ _ _ hne, hW3 j hj, ho]
  have hne : ∀ j cs (t : Nat), W.heap[j]? = some (Obj.cells cs t (0, 0)) → t ≠ 73 → j ≠ rg := fun j cs t hj ht e => by
    rw [e, HRG.out] at hj
    injection hj with hj
    injection hj with _ hj
    exact ht hj.symm
  have hlt : ∀ j o, W.heap[j]? = some o → j < W.heap.size := fun j o hj => (Array.getElem?_eq_some_iff.1 hj).1
  have hdr : Below base W (W.drewN (nq + 1)) := ⟨rfl, rfl, rfl, Nat.le_refl _, fun _ _ => rfl⟩
  refine ⟨rfl, ?_, set4_below (base := base) (W0 := W) (hdr.trans (HB3.out.mono (by have := HRL.out; show base ≤ W.heap.size; omega))) rg (k * 4) hbr _, ?_⟩
  · rw [hE]
    refine ⟨hfar _ _ (hlt _ _ H6.out) (hne _ _ _ H6.out (by decide)) H6.out, hfar _ _ (hlt _ _ H1.out) (hne _ _ _ H1.out (by decide)) H1.out, hfar _ _ (hlt _ _ H5.out) (hne _ _ _ H5.out (by decide)) H5.out, ⟨_, hfar _ _ (hlt _ _ HF.out) (hne _ _ _ HF.out (by decide)) HF.out, ?_⟩, HM.out.move (hfar _ _ HM.out.lt ?_ rfl), ?_, hlf, hlm⟩
    · exact hRO3.set k HKL.out _
    · intro e
      obtain ⟨es, cl, ho⟩ := HM.out.obj
      rw [e, HRG.out] at ho
      injection ho with ho
      cases ho
    · show s.1.length = (s.2.set k _).length
      rw [List.length_set]; exact HLEN.out
  · intro j cs t hj h1 h2
    rw [hfar j _ (hlt _ _ hj) (hne _ _ _ hj h2) hj, hj]
end Go.Proofs.Ytbpppchkgjcahaa
