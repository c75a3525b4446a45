/- The program's small functions on permutations: contracts. Conditions: none but those in the statements. -/
import Derived.Test.YtlhbdeebkkpkmaaFours
import Derived.Test.YtlhbdeebkkpkmaaWMore
namespace Go.Proofs.Ytlhbdeebkkpkmaa
open Go.RowKit Go.Shelf Go.Proofs.YtlhbdeebkkpkmaaW.PrintWords Go.Proofs.YtlhbdeebkkpkmaaW.PrintMore
attribute [local go_sem] Oper.semAt_some
attribute [local go_sem] max2_int min2_int max_two min_two max_three min_three max_four min_four
set_option linter.unusedVariables false

def tightB (a b c d : Int) : Bool := decide (c < a ∧ a < d ∧ d < b ∨ b < d ∧ d < a ∧ a < c)
def unfairB (a b c d : Int) : Bool := decide (c < a ∧ a < d ∧ d < b ∨ b < d ∧ d < a ∧ a < c)
theorem ret_bool {a b : Bool} (h : a = b) : Ending.returned (.bool a) = .returned (.bool b) := by rw [h]

set_option maxHeartbeats 4000000 in
theorem tight_any (a b c d : Int) (w : World) :
    Calls Try.prog 34 #[.agg #[.int .i64 a, .int .i64 b, .int .i64 c, .int .i64 d]] w fun e w' => e = .returned (.bool (tightB a b c d)) ∧ Below w.heap.size w w' := by
  obtain ⟨r, hr⟩ : ∃ r, tightB a b c d = r := ⟨_, rfl⟩
  rw [hr]
  have HR := Aside0.mk hr
  clear hr
  go_enter Try.func34, Try.ntmps34
  go_wp2
  all_goals
    go_ret
    refine ⟨ret_bool ?_, (Below.refl _ _).alloc (Nat.le_refl _) _⟩
    rw [← HR.out, Bool.eq_iff_iff]
    unfold tightB
    simp
    try omega

set_option maxHeartbeats 4000000 in
theorem unfair_any (a b c d : Int) (w : World) :
    Calls Try.prog 36 #[.agg #[.int .i64 a, .int .i64 b, .int .i64 c, .int .i64 d]] w fun e w' => e = .returned (.bool (unfairB a b c d)) ∧ Below w.heap.size w w' := by
  obtain ⟨r, hr⟩ : ∃ r, unfairB a b c d = r := ⟨_, rfl⟩
  rw [hr]
  have HR := Aside0.mk hr
  clear hr
  rcases Int.lt_trichotomy a d with h | h | h
  all_goals
    go_enter Try.func36, Try.ntmps36
    go_wp2
    go_quiet (fail)
    go_wp2
    all_goals
      go_ret
      refine ⟨ret_bool ?_, by repeat (first | exact Below.refl _ _ | apply pw_below_drewN | apply below_alloc)⟩
      rw [← HR.out, Bool.eq_iff_iff]
      unfold unfairB
      simp
      try omega

/-- 'fours' hands back its iterator over the list. -/
theorem fours_any (A : Option Addr) (n c : Nat) (w : World) :
    Calls Try.prog 38 #[.slice A n c] w fun e w' => e = .returned (.func (.func 53) #[] #[.pointer (some ⟨w.heap.size, 0, none⟩)]) ∧ w' = w.alloc (.cells #[.slice A n c] 22) := by
  go_enter Try.func38, Try.ntmps38
  go_wp2
  go_ret
  exact ⟨rfl, rfl⟩

def tightOf (p : List Int) (q : F4) : Bool := tightB (rd p (q.1 : Nat)) (rd p (q.2.1 : Nat)) (rd p (q.2.2.1 : Nat)) (rd p (q.2.2.2 : Nat))
def looseB (p : List Int) : Bool := (foursA p.length p.length).all fun q => !tightOf p q

set_option maxRecDepth 100000 in
set_option maxHeartbeats 4000000 in
theorem loose_any (A : Option Addr) (c : Nat) (p : List Int) (hp : p.length ≤ 1000000000) (w : World) (hr : Kd.C (Kd.int .i64) w A p.length p) :
    Calls Try.prog 44 #[.slice A p.length c] w fun e w' => e = .returned (.bool (looseB p)) ∧ Below w.heap.size w w' := by
  refine calls_of_wp_marks Try.func44 rfl ?_
  simp only [Try.ntmps44, List.size_toArray, List.length_cons, List.length_nil, Nat.reduceAdd, Nat.reduceSub, Array.replicate_succ, Array.replicate_zero, List.push_toArray, List.append_toArray, List.nil_append, List.cons_append]
  go_wp2_with (go_at_call 38; refine (fours_any _ _ _ _).mono ?_; rintro e w' ⟨rfl, rfl⟩)
  have hB0 : Below w.heap.size w ((w.alloc (.cells #[.bool false] 4)).alloc (.cells #[.slice A p.length c] 22)) := ((Below.refl _ w).alloc (Nat.le_refl _) _).alloc (by simp) _
  refine wp_range_ro (gf := 53) (lb := #[.pointer (some ⟨w.heap.size + 1, 0, none⟩)]) rfl (enters_of Try.func53 (by kernel_rfl) rfl)
    (fours1_iter (w.heap.size + 1) c A p hp (fun k => k = w.heap.size) w.heap.size (fun k e => by omega) (by omega) w _ rfl hB0 (by simp) hr) (Below.refl _ _) (fun _ => rfl)
    (fun pre W => (∀ q ∈ pre, tightOf p q = false) ∧ Boxed W w.heap.size 4 (.bool false))
    (fun pre W => (∃ q ∈ pre, tightOf p q = true) ∧ Boxed W w.heap.size 4 (.bool false))
    (fun s X Y h hc => ⟨h.1, hc.boxed h.2⟩) (fun s X Y h hc => ⟨h.1, hc.boxed h.2⟩)
    ⟨by simp, (Boxed.new w 4 (.bool false)).alloc _⟩ ?round ?done ?stop
  case round =>
    rintro l pre x W hpre ⟨hall, hbox⟩ hbW
    have hlt : w.heap.size + 2 ≤ W.heap.size := by have := hbW.size; simpa using this
    dsimp only [enc4]
    gi_wp2
    refine ⟨(Rd.refl _ _ _).alloc (by simpa using hlt) _, fun W2 hc hb2 => ?_⟩
    have hbox2 := hc.boxed (hbox.alloc _)
    have hnb := hc.same _ _ (World.alloc_heap_new W _) rfl
    have n0 := blk_cell hnb 0
    have n1 := blk_cell hnb 1
    have n2 := blk_cell hnb 2
    have n3 := blk_cell hnb 3
    simp at n0 n1 n2 n3
    have hb0 := hbox2.cell
    have hf0 := hbox2.frozen
    have HX := Aside0.mk hbox2
    clear hbox2 hnb hbox
    gi_wp2_with fail
    refine ⟨trivial, rfl, (((callsIn_wide (n := 0)).2 (tight_any _ _ _ _ _)).inRound l).mono ?_⟩
    rintro e W3 ⟨rfl, hb3⟩
    have hbox3 : Boxed W3 w.heap.size 4 (.bool false) := (hb3.block _ HX.out.lt).trans HX.out
    have hsz : W.heap.size + 1 ≤ W2.heap.size := by have := hc.size; simpa using this
    have hrd : Rd ((w.alloc (.cells #[.bool false] 4)).alloc (.cells #[.slice A p.length c] 22)).heap.size (fun k => k = w.heap.size) W2 W3 := (Rd.refl _ _ _).call (by simp; omega) hb3
    have hb0 := hbox3.cell
    have hf0 := hbox3.frozen
    have HX3 := Aside0.mk hbox3
    have HRD := Aside0.mk hrd
    clear HX hbox3 hrd n0 n1 n2 n3
    cases ht : tightOf p x with
    | true =>
      rw [show tightB (rd p ↑x.1) (rd p ↑x.2.1) (rd p ↑x.2.2.1) (rd p ↑x.2.2.2) = true from ht]
      gi_wp2
      exact ⟨HRD.out.setCell (.inr rfl) _, ⟨x, by simp, ht⟩, HX3.out.set _⟩
    | false =>
      rw [show tightB (rd p ↑x.1) (rd p ↑x.2.1) (rd p ↑x.2.2.1) (rd p ↑x.2.2.2) = false from ht]
      gi_wp2
      exact ⟨HRD.out, ⟨fun q hq => (List.mem_append.1 hq).elim (hall q) (fun e => by simp at e; rw [e]; exact ht), HX3.out⟩⟩
  case done =>
    rintro D W hD hk ⟨hall, hbox⟩ hK
    have hb0 := hbox.cell
    have hf0 := hbox.frozen
    have hB1 := hB0.trans (hk.below (m := w.heap.size) (fun k e => by omega) (by simp; omega))
    have HB := Aside0.mk hB1
    have HX := Aside0.mk hbox
    have HK := Aside0.mk hK
    clear hB1 hbox hK hk hB0
    go_wp2
    have hl : looseB p = true := by
      unfold looseB
      rw [List.all_eq_true]
      intro q hq
      rw [hall q hq]; rfl
    refine ret_mark ((KeepsOthers.setCell _ _ _).same _ _ HK.out rfl) ?_
    intro W' hc hb
    have h5 := (hc.boxed (HX.out.set (.bool true))).cell
    refine ⟨.bool true, by simp [results, Try.f44, go_sem, h5], by rw [hl], (HB.out.setCell (p := ⟨w.heap.size, 0, none⟩) (Nat.le_refl _) _).trans (hb _ (by simp at hD; omega))⟩
  case stop =>
    rintro D pre W hD hk hpre ⟨⟨q, hq, hall⟩, hbox⟩ hK
    have hB1 := hB0.trans (hk.below (m := w.heap.size) (fun k e => by omega) (by simp; omega))
    have hl : looseB p = false := by
      unfold looseB
      rw [List.all_eq_false]
      exact ⟨q, hpre.subset hq, by rw [hall]; simp⟩
    show bodyPostM _ _ _ _ _ .ret _ _
    refine ret_mark hK ?_
    intro W' hc hb
    have h5 := (hc.boxed hbox).cell
    refine ⟨.bool false, by simp [results, Try.f44, go_sem, h5], by rw [hl], hB1.trans (hb _ (by simp at hD; omega))⟩
end Go.Proofs.Ytlhbdeebkkpkmaa
