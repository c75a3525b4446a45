/- The program's 'fair': whether no four numbers break it. Conditions: the list has at most 1000000000 numbers. -/
import Derived.Test.YtlhbdeebkkpkmaaFairP
namespace Go.Proofs.Ytlhbdeebkkpkmaa
open Go.RowKit Go.Shelf Go.Proofs.YtlhbdeebkkpkmaaW.PrintWords Go.Proofs.YtlhbdeebkkpkmaaW.PrintMore
attribute [local go_sem] Oper.semAt_some
set_option linter.unusedVariables false

set_option maxRecDepth 100000 in
set_option maxHeartbeats 4000000 in
theorem fair_any (A : Option Addr) (c : Nat) (p : List Int) (hp : p.length ≤ 1000000000) (w : World) (hr : Kd.C (Kd.int .i64) w A p.length p) :
    Calls Try.prog 48 #[.slice A p.length c] w fun e w' => e = .returned (.bool (fairB p)) ∧ Below w.heap.size w w' := by
  refine calls_of_wp_marks Try.func48 rfl ?_
  simp only [Try.ntmps48, List.size_toArray, List.length_cons, List.length_nil, Nat.reduceAdd, Nat.reduceSub, Array.replicate_succ, Array.replicate_zero, List.push_toArray, List.append_toArray, List.nil_append, List.cons_append]
  go_wp2_with (go_at_call 38; refine (fours_any _ _ _ _).mono ?_; rintro e w' ⟨rfl, rfl⟩)
  have hB0 : Below w.heap.size w ((w.alloc (.cells #[.bool false] 4)).alloc (.cells #[.slice A p.length c] 22)) := ((Below.refl _ w).alloc (Nat.le_refl _) _).alloc (by simp) _
  refine wp_range_ro (gf := 53) (lb := #[.pointer (some ⟨w.heap.size + 1, 0, none⟩)]) rfl (enters_of Try.func53 (by kernel_rfl) rfl)
    (fours1_iter (w.heap.size + 1) c A p hp (fun k => k = w.heap.size) w.heap.size (fun k e => by omega) (by omega) w _ rfl hB0 (by simp) hr) (Below.refl _ _) (fun _ => rfl)
    (fun pre W => (∀ q ∈ pre, badOf p q = false) ∧ Boxed W w.heap.size 4 (.bool false))
    (fun pre W => (∃ q ∈ pre, badOf p q = true) ∧ Boxed W w.heap.size 4 (.bool false))
    (fun s X Y h hc => ⟨h.1, hc.boxed h.2⟩) (fun s X Y h hc => ⟨h.1, hc.boxed h.2⟩)
    ⟨by simp, (Boxed.new w 4 (.bool false)).alloc _⟩ ?round ?done ?stop
  case round =>
    rintro l pre x W hpre ⟨hall, hbox⟩ hbW
    have hlt : w.heap.size + 2 ≤ W.heap.size := by have := hbW.size; simpa using this
    have hx := mem_four.1 (hpre.subset (show x ∈ pre ++ [x] by simp))
    have HX4 := Aside0.mk hx
    have HBX := Aside0.mk hbox
    have HLT := Aside0.mk hlt
    have HAL := Aside0.mk hall
    clear hx hbox hlt hall hpre hbW
    dsimp only [enc4]
    gi_wp2
    refine ⟨((Rd.refl _ _ _).alloc (by have := HLT.out; simp; omega) _).alloc (by have := HLT.out; simp; omega) _, fun W2 hc hb2 => ?_⟩
    have hsz : W.heap.size + 2 ≤ W2.heap.size := by have := hc.size; simpa using this
    have hpl := hc.same W.heap.size _ (((Below.heap_alloc _ _ _ (by simp)).trans (World.alloc_heap_new W _))) rfl
    have hnb := hc.same (W.heap.size + 1) _ (by have := World.alloc_heap_new (W.alloc (Obj.cells #[Value.int IntKind.i64 ↑x.fst, Value.int IntKind.i64 ↑x.snd.fst, Value.int IntKind.i64 ↑x.snd.snd.fst, Value.int IntKind.i64 ↑x.snd.snd.snd] 38)) (Obj.cells #[Value.int IntKind.i64 (rd p ↑x.fst), Value.int IntKind.i64 (rd p ↑x.snd.fst), Value.int IntKind.i64 (rd p ↑x.snd.snd.fst), Value.int IntKind.i64 (rd p ↑x.snd.snd.snd)] 38); simpa using this) rfl
    have m1 := blk_cell hpl 1
    have m2 := blk_cell hpl 2
    have n0 := blk_cell hnb 0
    have n1 := blk_cell hnb 1
    have n2 := blk_cell hnb 2
    have n3 := blk_cell hnb 3
    simp at m1 m2 n0 n1 n2 n3
    have HB2 := Aside0.mk (hc.boxed ((HBX.out.alloc _).alloc _))
    have HSZ := Aside0.mk hsz
    have hb0 := HB2.out.cell
    have hf0 := HB2.out.frozen
    have hxl : x.2.1 ≤ 1000000000 := by have := HX4.out; omega
    clear hsz hpl hnb hc hb2
    by_cases he : (x.2.1 : Int) + 1 = (x.2.2.1 : Int)
    case neg =>
      have hbad : badOf p x = false := by unfold badOf; rw [decide_eq_false (by omega)]; rfl
      have HBD := Aside0.mk hbad
      have b1 : decide ((x.2.1 : Int) + 1 = (x.2.2.1 : Int)) = false := decide_eq_false he
      have b2 : ((x.2.1 : Int) + 1 == (x.2.2.1 : Int)) = false := by simpa using he
      clear hbad he
      gi_wp2_with fail
      refine ⟨trivial, ?_⟩
      gi_wp2
      exact ⟨Rd.refl _ _ _, fun q hq => (List.mem_append.1 hq).elim (HAL.out q) (fun e => by simp at e; rw [e]; exact HBD.out), HB2.out⟩
    case pos =>
      have hbad : badOf p x = unfairB (rd p (x.1 : Nat)) (rd p (x.2.1 : Nat)) (rd p (x.2.2.1 : Nat)) (rd p (x.2.2.2 : Nat)) := by unfold badOf; rw [decide_eq_true (by omega), Bool.true_and]
      have HBD := Aside0.mk hbad
      have b1 : decide ((x.2.1 : Int) + 1 = (x.2.2.1 : Int)) = true := decide_eq_true he
      have b2 : ((x.2.1 : Int) + 1 == (x.2.2.1 : Int)) = true := by simpa using he
      clear hbad he
      gi_wp2_with fail
      refine ⟨trivial, rfl, (((callsIn_wide (n := 0)).2 (unfair_any _ _ _ _ _)).inRound l).mono ?_⟩
      rintro e W3 ⟨rfl, hb3⟩
      have HB3 := Aside0.mk (show Boxed W3 w.heap.size 4 (.bool false) from (hb3.block _ HB2.out.lt).trans HB2.out)
      have HRD := Aside0.mk (show Rd ((w.alloc (.cells #[.bool false] 4)).alloc (.cells #[.slice A p.length c] 22)).heap.size (fun k => k = w.heap.size) W2 W3 from (Rd.refl _ _ _).call (by have h1 := HSZ.out; have h2 := HLT.out; simp; omega) hb3)
      have hb0 := HB3.out.cell
      have hf0 := HB3.out.frozen
      clear n0 n1 n2 n3 m1 m2 hb3 HB2
      cases ht : badOf p x with
      | true =>
        rw [show unfairB (rd p ↑x.1) (rd p ↑x.2.1) (rd p ↑x.2.2.1) (rd p ↑x.2.2.2) = true from HBD.out.symm.trans ht]
        gi_wp2
        exact ⟨HRD.out.setCell (.inr rfl) _, ⟨x, by simp, ht⟩, HB3.out.set _⟩
      | false =>
        rw [show unfairB (rd p ↑x.1) (rd p ↑x.2.1) (rd p ↑x.2.2.1) (rd p ↑x.2.2.2) = false from HBD.out.symm.trans ht]
        gi_wp2
        exact ⟨HRD.out, fun q hq => (List.mem_append.1 hq).elim (HAL.out q) (fun e => by simp at e; rw [e]; exact ht), HB3.out⟩
  case done =>
    rintro D W hD hk ⟨hall, hbox⟩ hK
    have hb0 := hbox.cell
    have hf0 := hbox.frozen
    have hB1 := hB0.trans (hk.below (m := w.heap.size) (fun k e => by omega) (by simp; omega))
    have HB := Aside0.mk hB1
    have HX := Aside0.mk hbox
    have HK := Aside0.mk hK
    clear hB1 hbox hK hk hB0
    go_wp2
    have hl : fairB p = true := by
      unfold fairB
      rw [List.all_eq_true]
      intro q hq
      rw [hall q hq]; rfl
    refine ret_mark ((KeepsOthers.setCell _ _ _).same _ _ HK.out rfl) ?_
    intro W' hc hb
    have h5 := (hc.boxed (HX.out.set (.bool true))).cell
    refine ⟨.bool true, by simp [results, Try.f48, go_sem, h5], by rw [hl], (HB.out.setCell (p := ⟨w.heap.size, 0, none⟩) (Nat.le_refl _) _).trans (hb _ (by simp at hD; omega))⟩
  case stop =>
    rintro D pre W hD hk hpre ⟨⟨q, hq, hall⟩, hbox⟩ hK
    have hB1 := hB0.trans (hk.below (m := w.heap.size) (fun k e => by omega) (by simp; omega))
    have hl : fairB p = false := by
      unfold fairB
      rw [List.all_eq_false]
      exact ⟨q, hpre.subset hq, by rw [hall]; simp⟩
    show bodyPostM _ _ _ _ _ .ret _ _
    refine ret_mark hK ?_
    intro W' hc hb
    have h5 := (hc.boxed hbox).cell
    refine ⟨.bool false, by simp [results, Try.f48, go_sem, h5], by rw [hl], hB1.trans (hb _ (by simp at hD; omega))⟩
end Go.Proofs.Ytlhbdeebkkpkmaa
