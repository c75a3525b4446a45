/- The cuts of a part: the program's iterator. -/
import Derived.Test.YtbpppchkgjcahaaKAFloorRM
import Derived.RangeFuncBound
import Derived.Shelf.RegionOpen
import Derived.WalkKit
import Derived.TacticsInMore
import Derived.LoopNIn
import Derived.LoopIn
namespace Go.Proofs.Ytbpppchkgjcahaa
open Go.RowKit Go.Shelf Go.Proofs.YtbpppchkgjcahaaW.PrintWords Go.Proofs.YtbpppchkgjcahaaW.PrintMore
set_option linter.unusedVariables false
def linesL (cl : Nat → Nat → Int) (level : Bool) (lo from_ long : Nat) : Nat → List (Bool × Nat)
  | 0 => []
  | k + 1 => linesL cl level lo from_ long k ++ if throughL cl level (lo + 1 + k) from_ long then [(level, lo + 1 + k)] else []
def cutsL (cl : Nat → Nat → Int) (r c ph pw : Nat) : List (Bool × Nat) := linesL cl false c r ph (pw - 1) ++ linesL cl true r c pw (ph - 1)
def oneB (r c ph pw : Nat) (x : Bool × Nat) : Box := if x.1 then natB r c (x.2 - r) pw else natB r c ph (x.2 - c)
def twoB (r c ph pw : Nat) (x : Bool × Nat) : Box := if x.1 then natB x.2 c (ph - (x.2 - r)) pw else natB r x.2 ph (pw - (x.2 - c))
def piecesV (fb r c ph pw : Nat) (x : Bool × Nat) : Value := .agg #[.bool x.1,
  .pointer (some ⟨fb, 0, none⟩), .int .i64 (oneB r c ph pw x).1, .int .i64 (oneB r c ph pw x).2.1, .int .i64 (oneB r c ph pw x).2.2.1, .int .i64 (oneB r c ph pw x).2.2.2,
  .pointer (some ⟨fb, 0, none⟩), .int .i64 (twoB r c ph pw x).1, .int .i64 (twoB r c ph pw x).2.1, .int .i64 (twoB r c ph pw x).2.2.1, .int .i64 (twoB r c ph pw x).2.2.2]
theorem linesL_pre (cl : Nat → Nat → Int) (level : Bool) (lo from_ long : Nat) {k n : Nat} (h : k ≤ n) : linesL cl level lo from_ long k <+: linesL cl level lo from_ long n := by
  induction n with
  | zero => rw [show k = 0 by omega]; exact List.prefix_refl _
  | succ n ih =>
    by_cases hk : k = n + 1
    · subst hk; exact List.prefix_refl _
    · exact (ih (by omega)).trans (List.prefix_append _ _)
theorem linesL_step {cl : Nat → Nat → Int} {level : Bool} {lo from_ long k : Nat} (h : throughL cl level (lo + 1 + k) from_ long = true) : linesL cl level lo from_ long (k + 1) = linesL cl level lo from_ long k ++ [(level, lo + 1 + k)] := by
  show linesL cl level lo from_ long k ++ _ = _
  rw [if_pos h]
theorem linesL_skip {cl : Nat → Nat → Int} {level : Bool} {lo from_ long k : Nat} (h : throughL cl level (lo + 1 + k) from_ long = false) : linesL cl level lo from_ long (k + 1) = linesL cl level lo from_ long k := by
  show linesL cl level lo from_ long k ++ _ = _
  rw [if_neg (by rw [h]; simp), List.append_nil]
theorem two_kept {wa w3 : World} {cs1 cs2 : Array Value} {t : TypeId} (hb : Below ((wa.alloc (.cells cs1 t)).alloc (.cells cs2 t)).heap.size ((wa.alloc (.cells cs1 t)).alloc (.cells cs2 t)) w3) : (∀ i : Nat, w3.cell? ⟨wa.heap.size, i, none⟩ = cs1[i]?) ∧ (∀ i : Nat, w3.cell? ⟨wa.heap.size + 1, i, none⟩ = cs2[i]?) := by
  have h1 : w3.heap[wa.heap.size]? = some (.cells cs1 t (0, 0)) := by
    rw [hb.block _ (by simp; omega), Below.heap_alloc _ _ _ (by simp)]
    exact heap_alloc_new wa _
  have h2 : w3.heap[wa.heap.size + 1]? = some (.cells cs2 t (0, 0)) := by
    rw [hb.block _ (by simp)]
    exact new_at2
  exact ⟨fun i => Lib.cell_of_heap h1 i, fun i => Lib.cell_of_heap h2 i⟩
set_option maxRecDepth 100000 in
set_option maxHeartbeats 4000000 in
theorem cuts1_iter (fb h wd : Nat) (cl : Nat → Nat → Int) (boxes : List Box) (r c ph pw B m : Nat) (M : Nat → Prop) (hMm : ∀ k, M k → m ≤ k) (hMB : ¬ M B) (v w : World) (hvm : v.heap.size = m) (hvw : Below v.heap.size v w) (hf : FloorR v fb h wd cl boxes) (hh : h ≤ 1000) (hwd : wd ≤ 1000) (hr : r + ph ≤ h) (hc : c + pw ≤ wd)
    (hB : w.heap[B]? = some (.cells #[.pointer (some ⟨fb, 0, none⟩), .int .i64 r, .int .i64 c, .int .i64 ph, .int .i64 pw] 75 (0, 0))) :
    IterRO Try.prog 212 #[.pointer (some ⟨B, 0, none⟩)] (fun x => #[piecesV fb r c ph pw x]) (cutsL cl r c ph pw) M w := by
  intro l J Jx W hbW hJ hY h0
  have hBw : B < w.heap.size := (Array.getElem?_eq_some_iff.1 hB).1
  have hBW : W.heap[B]? = some (.cells #[.pointer (some ⟨fb, 0, none⟩), .int .i64 r, .int .i64 c, .int .i64 ph, .int .i64 pw] 75 (0, 0)) := (hbW.block B hBw).trans hB
  have HR := Aside0.mk hf
  have HB := Aside0.mk hbW
  have HV := Aside0.mk hvw
  have HBW := Aside0.mk hBW
  have g0 : W.cell? ⟨B, 0, none⟩ = some (.pointer (some ⟨fb, 0, none⟩)) := by rw [Lib.cell_of_heap hBW]; rfl
  have g1 : W.cell? ⟨B, 1, none⟩ = some (.int .i64 r) := by rw [Lib.cell_of_heap hBW]; rfl
  have g2 : W.cell? ⟨B, 2, none⟩ = some (.int .i64 c) := by rw [Lib.cell_of_heap hBW]; rfl
  have g3 : W.cell? ⟨B, 3, none⟩ = some (.int .i64 ph) := by rw [Lib.cell_of_heap hBW]; rfl
  have g4 : W.cell? ⟨B, 4, none⟩ = some (.int .i64 pw) := by rw [Lib.cell_of_heap hBW]; rfl
  clear hB hf hbW hvw hBW
  refine callsIn_of_wp Try.func212 rfl trivial ?_ rfl
  simp only [Try.ntmps212, List.size_toArray, List.length_cons, List.length_nil, Nat.reduceAdd, Nat.reduceSub, Array.replicate_succ, Array.replicate_zero, List.push_toArray, List.append_toArray, List.nil_append, List.cons_append]
  gi_wp2
  gi_loopw [3] (fun i wr => ∃ k : Nat, i = .int .i64 ((c + 1 + k : Nat) : Int) ∧ (k ≤ pw - 1) ∧ J (linesL cl false c r ph k) wr ∧ KeepM w.heap.size M W wr) (fun i _ => c + pw - (intOf i).toNat)
  case atStart => exact ⟨0, by go_num, Nat.zero_le _, h0, KeepM.refl _ _ _⟩
  case round =>
    obtain ⟨k, rfl, hk, hJa, hBa⟩ := hrel
    obtain ⟨wa, rfl⟩ : ∃ wo : World, wo = wr := ⟨_, rfl⟩
    have k0 := (hBa.cell (a := ⟨B, 0, none⟩) hBw hMB).trans g0
    have k1 := (hBa.cell (a := ⟨B, 1, none⟩) hBw hMB).trans g1
    have k2 := (hBa.cell (a := ⟨B, 2, none⟩) hBw hMB).trans g2
    have k3 := (hBa.cell (a := ⟨B, 3, none⟩) hBw hMB).trans g3
    have k4 := (hBa.cell (a := ⟨B, 4, none⟩) hBw hMB).trans g4
    by_cases hlt : k < pw - 1
    · have hg : (((c + 1 + k : Nat) : Int)) < (c : Int) + (pw : Int) := by omega
      gi_wp2
      refine wpIn_wide.2 ?_
      have HJA := Aside0.mk hJa
      have HBA := Aside0.mk hBa
      have hBq : B < wa.heap.size := World.block_lt_of_cell? wa _ k0
      clear g0 g1 g2 g3 g4 hJa hBa
      go_region_held3 (fun w' => (w'.cell? ⟨B, 0, none⟩ = some (.pointer (some ⟨fb, 0, none⟩)) ∧ w'.cell? ⟨B, 1, none⟩ = some (.int .i64 r)) ∧ w'.cell? ⟨B, 2, none⟩ = some (.int .i64 c) ∧ w'.cell? ⟨B, 3, none⟩ = some (.int .i64 ph) ∧ w'.cell? ⟨B, 4, none⟩ = some (.int .i64 pw)) (first
        | exact ⟨⟨k0, k1⟩, k2, k3, k4⟩
        | (go_simp)) (fail)
      all_goals
        have hz : ∀ (O1 O2 : Obj) (i : Nat), ((wa.alloc O1).alloc O2).cell? ⟨B, i, none⟩ = wa.cell? ⟨B, i, none⟩ := fun O1 O2 i => World.cell?_of_block ((Below.heap_alloc _ _ _ (by simp; omega)).trans (Below.heap_alloc _ _ _ hBq))
        have z0 := fun O1 O2 => (hz O1 O2 0).trans k0
        have z1 := fun O1 O2 => (hz O1 O2 1).trans k1
        have z2 := fun O1 O2 => (hz O1 O2 2).trans k2
        have z3 := fun O1 O2 => (hz O1 O2 3).trans k3
        have z4 := fun O1 O2 => (hz O1 O2 4).trans k4
        clear hz k0 k1 k2 k3 k4
        gi_wp2
        refine wpIn_wide.2 ?_
        first
          | go_region_held3 (fun w' => w'.cell? ⟨B, 4, none⟩ = some (.int .i64 pw) ∧ w'.cell? ⟨wa.heap.size, 4, none⟩ = some (.int .i64 ((c : Int) + 1 + k - c))) (go_simp) (fail)
          | go_region_held3 (fun w' => w'.cell? ⟨B, 4, none⟩ = some (.int .i64 pw) ∧ w'.cell? ⟨wa.heap.size + 1, 4, none⟩ = some (.int .i64 ((c : Int) + 1 + k - c))) (go_simp) (fail)
        have HTH : Aside0 (∀ W, FloorR W fb h wd cl boxes → CallsIn Fence.wide 0 Try.prog 213 #[.agg #[.pointer (some ⟨fb, 0, none⟩), .int .i64 r, .int .i64 c, .int .i64 ph, .int .i64 pw], .bool false, .int .i64 ((c : Int) + 1 + k)] W fun e w' => e = .returned (.bool (throughL cl false (c + 1 + k) r ph)) ∧ Below W.heap.size W w') := ⟨fun W hW => callsIn_wide.2 (by
          have := through_any fb h wd cl boxes W hW hh hwd r c ph pw hr hc false (c + 1 + k) (by omega) (by simp; omega)
          simpa [partV, natB] using this)⟩
        have hX : Below v.heap.size v wa := HV.out.trans ((HB.out.mono HV.out.size).trans (HBA.out.below (hvm ▸ hMm) HV.out.size))
        cases ht : throughL cl false (c + 1 + k) r ph with
        | false =>
          gi_wp2_with fail
          refine ⟨trivial, rfl, (HTH.out _ (HR.out.below (hX.trans (Below.mono ?fl hX.size)))).mono ?_⟩
          case fl => repeat (first | exact Below.refl _ _ | apply Below.drew | apply below_alloc)
          rintro e w3 ⟨rfl, hb3⟩
          have hb4 : Below wa.heap.size wa w3 := Below.trans (by repeat (first | exact Below.refl _ _ | apply Below.drew | apply below_alloc)) (hb3.mono (by show wa.heap.size ≤ ((wa.alloc _).alloc _).heap.size; simp; omega))
          have HB4 := Aside0.mk hb4
          clear hb3 hb4
          rw [ht]
          gi_wp2
          refine ⟨fun f hf => (by cases hf), ?_⟩
          gi_wp2
          go_roundw
          case rel => exact ⟨k + 1, by go_num, by omega, by rw [linesL_skip ht]; exact hJ _ _ _ HJA.out ⟨HB4.out.os, HB4.out.tape, HB4.out.output, HB4.out.size, fun q hq _ => HB4.out.block q hq⟩, HBA.out.trans (KeepM.of_below (HB4.out.mono (Nat.le_trans HB.out.size HBA.out.size)))⟩
          case measure => simp [intOf]; omega
        | true =>
          gi_wp2_with fail
          refine ⟨trivial, rfl, (HTH.out _ (HR.out.below (hX.trans (Below.mono ?fl hX.size)))).mono ?_⟩
          case fl => repeat (first | exact Below.refl _ _ | apply Below.drew | apply below_alloc)
          rintro e w3 ⟨rfl, hb3⟩
          rw [ht]
          obtain ⟨o1, o2⟩ := two_kept (show Below _ ((wa.alloc _).alloc _) w3 from ⟨hb3.os, hb3.tape, hb3.output, hb3.size, hb3.block⟩)
          have x0 := o1 0
          have y0 := o2 0
          have x1 := o1 1
          have y1 := o2 1
          have x2 := o1 2
          have y2 := o2 2
          have x3 := o1 3
          have y3 := o2 3
          have x4 := o1 4
          have y4 := o2 4
          simp only [List.getElem?_toArray, List.getElem?_cons_zero, List.getElem?_cons_succ] at x0 x1 x2 x3 x4 y0 y1 y2 y3 y4
          clear o1 o2
          have hb4 : Below wa.heap.size wa w3 := Below.trans (by repeat (first | exact Below.refl _ _ | apply Below.drew | apply below_alloc)) (hb3.mono (by show wa.heap.size ≤ ((wa.alloc _).alloc _).heap.size; simp; omega))
          have HB4 := Aside0.mk hb4
          have hpre : linesL cl false c r ph k ++ [(false, c + 1 + k)] <+: cutsL cl r c ph pw := by
            rw [← linesL_step ht]
            exact (linesL_pre cl false c r ph (by omega)).trans (List.prefix_append _ _)
          have HPRE := Aside0.mk hpre
          obtain ⟨fn, tmps, assign, body, hy, hR⟩ := hY _ (false, c + 1 + k) w3 (hJ _ _ _ HJA.out ⟨hb4.os, hb4.tape, hb4.output, hb4.size, fun q hq _ => hb4.block q hq⟩) hpre
          have HRY := Aside0.mk hR
          have e1 : ((c + 1 + k - c : Nat) : Int) = (c : Int) + 1 + k - c := by omega
          have e2 : ((pw - (c + 1 + k - c) : Nat) : Int) = (pw : Int) - ((c : Int) + 1 + k - c) := by omega
          have e3 : ((c + 1 + k : Nat) : Int) = (c : Int) + 1 + k := by omega
          simp only [piecesV, oneB, twoB, natB, Bool.false_eq_true, if_false, e1, e2, e3] at hy
          clear hb3 hb4 hpre hR e1 e2 e3
          gi_wp2
          refine ⟨rfl, HRY.out.mono ?_⟩
          rintro e W' (⟨rfl, hJ', hk'⟩ | ⟨rfl, hJx'⟩)
          · gi_wp2
            go_roundw
            case rel => exact ⟨k + 1, by go_num, by omega, by rw [linesL_step ht]; exact hJ', (HBA.out.trans (KeepM.of_below (HB4.out.mono (Nat.le_trans HB.out.size HBA.out.size)))).trans hk'⟩
            case measure => simp [intOf]; omega
          · gi_wp2
            refine bodyPost_ret (results_none rfl _ _ _) rfl ?_
            exact ⟨⟨_, rfl⟩, .inr ⟨_, HPRE.out, hJx'⟩⟩
    · obtain rfl : k = pw - 1 := by omega
      have hg : ¬ (((c + 1 + (pw - 1) : Nat) : Int)) < (c : Int) + (pw : Int) := by omega
      have HJ0 := Aside0.mk hJa
      have HB0 := Aside0.mk hBa
      clear hJa hBa hlt
      gi_wp2
      gi_loopw [6] (fun i wr => ∃ k : Nat, i = .int .i64 ((r + 1 + k : Nat) : Int) ∧ (k ≤ ph - 1) ∧ J (linesL cl false c r ph (pw - 1) ++ linesL cl true r c pw k) wr ∧ KeepM w.heap.size M W wr) (fun i _ => r + ph - (intOf i).toNat)
      case atStart => exact ⟨0, by go_num, Nat.zero_le _, by show J (_ ++ []) _; rw [List.append_nil]; exact HJ0.out, HB0.out⟩
      case round =>
        clear k0 k1 k2 k3 k4 HJ0 HB0 hk hg
        obtain ⟨k, rfl, hk, hJa, hBa⟩ := hrel
        obtain ⟨wa, rfl⟩ : ∃ wo : World, wo = wr := ⟨_, rfl⟩
        have k0 := (hBa.cell (a := ⟨B, 0, none⟩) hBw hMB).trans g0
        have k1 := (hBa.cell (a := ⟨B, 1, none⟩) hBw hMB).trans g1
        have k2 := (hBa.cell (a := ⟨B, 2, none⟩) hBw hMB).trans g2
        have k3 := (hBa.cell (a := ⟨B, 3, none⟩) hBw hMB).trans g3
        have k4 := (hBa.cell (a := ⟨B, 4, none⟩) hBw hMB).trans g4
        by_cases hlt : k < ph - 1
        · have hg : (((r + 1 + k : Nat) : Int)) < (r : Int) + (ph : Int) := by omega
          gi_wp2
          refine wpIn_wide.2 ?_
          have HJA := Aside0.mk hJa
          have HBA := Aside0.mk hBa
          have hBq : B < wa.heap.size := World.block_lt_of_cell? wa _ k0
          clear g0 g1 g2 g3 g4 hJa hBa
          go_region_held3 (fun w' => (w'.cell? ⟨B, 0, none⟩ = some (.pointer (some ⟨fb, 0, none⟩)) ∧ w'.cell? ⟨B, 1, none⟩ = some (.int .i64 r)) ∧ w'.cell? ⟨B, 2, none⟩ = some (.int .i64 c) ∧ w'.cell? ⟨B, 3, none⟩ = some (.int .i64 ph) ∧ w'.cell? ⟨B, 4, none⟩ = some (.int .i64 pw)) (first
            | exact ⟨⟨k0, k1⟩, k2, k3, k4⟩
            | (go_simp)) (fail)
          all_goals
            have hz : ∀ (O1 O2 : Obj) (i : Nat), ((wa.alloc O1).alloc O2).cell? ⟨B, i, none⟩ = wa.cell? ⟨B, i, none⟩ := fun O1 O2 i => World.cell?_of_block ((Below.heap_alloc _ _ _ (by simp; omega)).trans (Below.heap_alloc _ _ _ hBq))
            have z0 := fun O1 O2 => (hz O1 O2 0).trans k0
            have z1 := fun O1 O2 => (hz O1 O2 1).trans k1
            have z2 := fun O1 O2 => (hz O1 O2 2).trans k2
            have z3 := fun O1 O2 => (hz O1 O2 3).trans k3
            have z4 := fun O1 O2 => (hz O1 O2 4).trans k4
            clear hz k0 k1 k2 k3 k4
            gi_wp2
            refine wpIn_wide.2 ?_
            first
              | go_region_held3 (fun w' => w'.cell? ⟨B, 3, none⟩ = some (.int .i64 ph) ∧ w'.cell? ⟨wa.heap.size, 3, none⟩ = some (.int .i64 ((r : Int) + 1 + k - r))) (go_simp) (fail)
              | go_region_held3 (fun w' => w'.cell? ⟨B, 3, none⟩ = some (.int .i64 ph) ∧ w'.cell? ⟨wa.heap.size + 1, 3, none⟩ = some (.int .i64 ((r : Int) + 1 + k - r))) (go_simp) (fail)
            have HTH : Aside0 (∀ W, FloorR W fb h wd cl boxes → CallsIn Fence.wide 0 Try.prog 213 #[.agg #[.pointer (some ⟨fb, 0, none⟩), .int .i64 r, .int .i64 c, .int .i64 ph, .int .i64 pw], .bool true, .int .i64 ((r : Int) + 1 + k)] W fun e w' => e = .returned (.bool (throughL cl true (r + 1 + k) c pw)) ∧ Below W.heap.size W w') := ⟨fun W hW => callsIn_wide.2 (by
              have := through_any fb h wd cl boxes W hW hh hwd r c ph pw hr hc true (r + 1 + k) (by omega) (by simp; omega)
              simpa [partV, natB] using this)⟩
            have hX : Below v.heap.size v wa := HV.out.trans ((HB.out.mono HV.out.size).trans (HBA.out.below (hvm ▸ hMm) HV.out.size))
            cases ht : throughL cl true (r + 1 + k) c pw with
            | false =>
              gi_wp2_with fail
              refine ⟨trivial, rfl, (HTH.out _ (HR.out.below (hX.trans (Below.mono ?fl hX.size)))).mono ?_⟩
              case fl => repeat (first | exact Below.refl _ _ | apply Below.drew | apply below_alloc)
              rintro e w3 ⟨rfl, hb3⟩
              have hb4 : Below wa.heap.size wa w3 := Below.trans (by repeat (first | exact Below.refl _ _ | apply Below.drew | apply below_alloc)) (hb3.mono (by show wa.heap.size ≤ ((wa.alloc _).alloc _).heap.size; simp; omega))
              have HB4 := Aside0.mk hb4
              clear hb3 hb4
              rw [ht]
              gi_wp2
              refine ⟨fun f hf => (by cases hf), ?_⟩
              gi_wp2
              go_roundw
              case rel => exact ⟨k + 1, by go_num, by omega, by rw [linesL_skip ht]; exact hJ _ _ _ HJA.out ⟨HB4.out.os, HB4.out.tape, HB4.out.output, HB4.out.size, fun q hq _ => HB4.out.block q hq⟩, HBA.out.trans (KeepM.of_below (HB4.out.mono (Nat.le_trans HB.out.size HBA.out.size)))⟩
              case measure => simp [intOf]; omega
            | true =>
              gi_wp2_with fail
              refine ⟨trivial, rfl, (HTH.out _ (HR.out.below (hX.trans (Below.mono ?fl hX.size)))).mono ?_⟩
              case fl => repeat (first | exact Below.refl _ _ | apply Below.drew | apply below_alloc)
              rintro e w3 ⟨rfl, hb3⟩
              rw [ht]
              obtain ⟨o1, o2⟩ := two_kept (show Below _ ((wa.alloc _).alloc _) w3 from ⟨hb3.os, hb3.tape, hb3.output, hb3.size, hb3.block⟩)
              have x0 := o1 0
              have y0 := o2 0
              have x1 := o1 1
              have y1 := o2 1
              have x2 := o1 2
              have y2 := o2 2
              have x3 := o1 3
              have y3 := o2 3
              have x4 := o1 4
              have y4 := o2 4
              simp only [List.getElem?_toArray, List.getElem?_cons_zero, List.getElem?_cons_succ] at x0 x1 x2 x3 x4 y0 y1 y2 y3 y4
              clear o1 o2
              have hb4 : Below wa.heap.size wa w3 := Below.trans (by repeat (first | exact Below.refl _ _ | apply Below.drew | apply below_alloc)) (hb3.mono (by show wa.heap.size ≤ ((wa.alloc _).alloc _).heap.size; simp; omega))
              have HB4 := Aside0.mk hb4
              have hpre : (linesL cl false c r ph (pw - 1) ++ linesL cl true r c pw k) ++ [(true, r + 1 + k)] <+: cutsL cl r c ph pw := by
                rw [List.append_assoc, ← linesL_step ht]
                exact (List.prefix_append_right_inj _).2 (linesL_pre cl true r c pw (by omega))
              have HPRE := Aside0.mk hpre
              obtain ⟨fn, tmps, assign, body, hy, hR⟩ := hY _ (true, r + 1 + k) w3 (hJ _ _ _ HJA.out ⟨hb4.os, hb4.tape, hb4.output, hb4.size, fun q hq _ => hb4.block q hq⟩) hpre
              have HRY := Aside0.mk hR
              have e1 : ((r + 1 + k - r : Nat) : Int) = (r : Int) + 1 + k - r := by omega
              have e2 : ((ph - (r + 1 + k - r) : Nat) : Int) = (ph : Int) - ((r : Int) + 1 + k - r) := by omega
              have e3 : ((r + 1 + k : Nat) : Int) = (r : Int) + 1 + k := by omega
              simp only [piecesV, oneB, twoB, natB, if_true, e1, e2, e3] at hy
              clear hb3 hb4 hpre hR e1 e2 e3
              gi_wp2
              refine ⟨rfl, HRY.out.mono ?_⟩
              rintro e W' (⟨rfl, hJ', hk'⟩ | ⟨rfl, hJx'⟩)
              · gi_wp2
                go_roundw
                case rel => exact ⟨k + 1, by go_num, by omega, by rw [linesL_step ht, ← List.append_assoc]; exact hJ', (HBA.out.trans (KeepM.of_below (HB4.out.mono (Nat.le_trans HB.out.size HBA.out.size)))).trans hk'⟩
                case measure => simp [intOf]; omega
              · gi_wp2
                refine bodyPost_ret (results_none rfl _ _ _) rfl ?_
                exact ⟨⟨_, rfl⟩, .inr ⟨_, HPRE.out, hJx'⟩⟩
        · obtain rfl : k = ph - 1 := by omega
          have hg : ¬ (((r + 1 + (ph - 1) : Nat) : Int)) < (r : Int) + (ph : Int) := by omega
          have HJ0 := Aside0.mk hJa
          clear hJa hlt
          gi_wp2
          go_end0
          exact ⟨⟨_, rfl⟩, .inl HJ0.out⟩
end Go.Proofs.Ytbpppchkgjcahaa
