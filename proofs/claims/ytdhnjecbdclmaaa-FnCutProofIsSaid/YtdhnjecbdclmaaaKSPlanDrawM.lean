/- Texts of this claim's, joined by a program: SPlanDraw, SCodeRow, SCutStuckS, SProofCut, STextLen, SDrawStuck, SListOwn. -/
import Derived.Test.YtdhnjecbdclmaaaKSPlanCut
import Derived.Test.YtdhnjecbdclmaaaKSL5x
import Derived.Test.YtdhnjecbdclmaaaKSLettersM
import Derived.Test.YtdhnjecbdclmaaaKSSpecTextM
import Derived.Test.YtdhnjecbdclmaaaKSFloorRM
section
namespace Go.Proofs.Ytdhnjecbdclmaaa
open Go.RowKit Go.Shelf Go.Proofs.YtdhnjecbdclmaaaW.PrintWords Go.Proofs.YtdhnjecbdclmaaaW.PrintMore
set_option linter.unusedVariables false
set_option linter.unusedSimpArgs false
def emptyT (n m : Nat) : List ByteArray := List.replicate n ⟨(List.replicate m 97).toArray⟩
theorem empty_dec : ∀ n m : Fin 5, L5.spec_l91Empty.f 60 ((n.val + 1 : Nat) : Int) ((m.val + 1 : Nat) : Int) = some (emptyT (n.val + 1) (m.val + 1)) ∧ planG (emptyT (n.val + 1) (m.val + 1)) = true := by decide +kernel
theorem empty_f {n m : Nat} (hn : 1 ≤ n ∧ n ≤ 5) (hm : 1 ≤ m ∧ m ≤ 5) : L5.spec_l91Empty.f 60 (n : Int) (m : Int) = some (emptyT n m) ∧ planG (emptyT n m) = true := by
  have := empty_dec ⟨n - 1, by omega⟩ ⟨m - 1, by omega⟩
  dsimp only at this
  rwa [show n - 1 + 1 = n by omega, show m - 1 + 1 = m by omega] at this
def three3 : List ByteArray := [⟨#[97, 97, 98]⟩, ⟨#[99, 100, 98]⟩, ⟨#[99, 101, 101]⟩]
def four4 : List ByteArray := [⟨#[97, 97, 97, 98]⟩, ⟨#[99, 100, 100, 98]⟩, ⟨#[99, 100, 100, 98]⟩, ⟨#[99, 101, 101, 101]⟩]
theorem three3_plan : planG three3 = true := by decide +kernel
theorem four4_plan : planG four4 = true := by decide +kernel
theorem lit_at {b : Nat} {W : World} (hb : b < W.heap.size) (l : List ByteArray) (hl : l.length ≤ 100) : PlanAt b (W.alloc (.cells (l.map Value.string).toArray 9)) (some ⟨W.heap.size, 0, none⟩) l.length l :=
  PlanAt.own (own_lit_of (enc := Value.string) W W.heap.size 9 l (Nat.le_refl _) (by omega)) rfl hb
set_option maxRecDepth 100000 in
set_option maxHeartbeats 8000000 in
theorem l91Plan_any (b : Nat) (q0 : Int) (w0 w : World) (h : Reader w0 w b q0) (hq : 0 ≤ q0 ∧ q0 ≤ 1000 - 100) (n m : Nat) (hn : 1 ≤ n ∧ n ≤ 5) (hm : 1 ≤ m ∧ m ≤ 5) :
    Calls Try.prog 99 #[.pointer (some ⟨b, 0, none⟩), .int .i64 n, .int .i64 m] w fun e w' => DrewP n w0 b (q0 + 50) w' e := by
  have H := Aside0.mk h
  have hq1 := hq.1
  have hq2 := hq.2
  obtain ⟨hef, hep⟩ := empty_f hn hm
  have HEM := Aside0.mk (fun W => L5.spec_l91Empty.calls 60 n m _ W hef)
  have HEP := Aside0.mk hep
  have HEL : Aside0 ((emptyT n m).length = n) := ⟨by unfold emptyT; rw [List.length_replicate]⟩
  have hn1 := hn.1
  have hn5 := hn.2
  have hm1 := hm.1
  have hm5 := hm.2
  clear h hq hef hep hn hm
  by_cases a3 : n = 3 ∧ m = 3
  · obtain ⟨rfl, rfl⟩ := a3
    clear hn1 hn5 hm1 hm5
    go_enter Try.func99, Try.ntmps99
    go_wp2_with fail
    refine (pick_rd b q0 2 w0 w H.out ⟨by omega, by omega⟩ ⟨by omega, by omega⟩).mono ?_
    rintro e w1 ⟨k1, rfl, hk1, H1, _, _, _⟩
    by_cases hk0 : k1 = 0
    · subst hk0
      go_wp2_with fail
      have HPL : Aside0 (PlanAt b (w1.alloc (.cells #[.string ⟨#[97, 97, 98]⟩, .string ⟨#[99, 100, 98]⟩, .string ⟨#[99, 101, 101]⟩] 9)) (some ⟨w1.heap.size, 0, none⟩) 3 three3) := ⟨lit_at (Reader.lt H1.out) three3 (by decide)⟩
      refine (pick_rd b (q0 + 1) 2 w0 _ (H1.out.alloc _) ⟨by omega, by omega⟩ ⟨by omega, by omega⟩).mono ?_
      rintro e w9 ⟨k9, rfl, hk9, H9, _, H9b, H9c⟩
      have HP9 := Aside0.mk (HPL.out.move (fun j h1 _ => H9b.out j h1) (by rw [H9c.out]; exact Nat.le_refl _))
      clear H9b H9c HPL
      have HCU : Aside0 (Calls Try.prog 176 #[.pointer (some ⟨b, 0, none⟩), .slice (some ⟨w1.heap.size, 0, none⟩) 3 3, .int .i64 k9] w9 fun e w' => DrewP 3 w0 b (q0 + 1 + 1 + 40) w' e) := ⟨l91Cut_any b (q0 + 1 + 1) w0 w9 H9.out ⟨by omega, by omega⟩ (some ⟨w1.heap.size, 0, none⟩) 3 three3 HP9.out three3_plan k9 (by omega)⟩
      go_wp2_with fail
      refine HCU.out.mono ?_
      rintro e w10 ⟨q10, A10, c10, qn, rfl, hl, hn0, hn1, HD⟩
      go_wp2_with fail
      go_ret
      exact ⟨q10, A10, c10, qn, by rw [hl]; rfl, hl, hn0, by omega, HD⟩
    · have hkz : ((k1 : Int) == 0) = false := by rw [beq_eq_false_iff_ne]; omega
      go_wp2_with fail
      refine (HEM.out _).mono ?_
      rintro e w8 ⟨v8, rfl, hR8, hb8⟩
      have HR8 := Aside0.mk (H1.out.on hb8)
      have HO8 := Aside0.mk (Kd.own_of_R (enc := Value.string) (h1 := fun _ => rfl) hR8)
      obtain ⟨A8, c8, rfl⟩ := own_slice HO8.out
      have HP8 : Aside0 (PlanAt b w8 A8 c8 (emptyT 3 3)) := ⟨PlanAt.own HO8.out rfl (Reader.lt H1.out)⟩
      clear hb8 hR8 HO8
      go_wp2_with fail
      refine (pick_rd b (q0 + 1) 9 w0 w8 HR8.out ⟨by omega, by omega⟩ ⟨by omega, by omega⟩).mono ?_
      rintro e w9 ⟨k9, rfl, hk9, H9, _, H9b, H9c⟩
      have HP9 := Aside0.mk (HP8.out.move (fun j h1 _ => H9b.out j h1) (by rw [H9c.out]; exact Nat.le_refl _))
      clear H9b H9c HP8 HR8
      go_wp2_with fail
      refine (l91Cut_any b ((q0 + 1) + 1) w0 w9 H9.out ⟨by omega, by omega⟩ A8 c8 (emptyT 3 3) HP9.out HEP.out k9 (by omega)).mono ?_
      rintro e w10 ⟨q10, A10, c10, qn, rfl, hl, hn0, hn1, HD⟩
      go_wp2_with fail
      go_ret
      exact ⟨q10, A10, c10, qn, by rw [hl, HEL.out]; rfl, hl.trans HEL.out, hn0, by omega, HD⟩
  · by_cases a4 : n = 4 ∧ m = 4
    · obtain ⟨rfl, rfl⟩ := a4
      clear hn1 hn5 hm1 hm5 a3
      go_enter Try.func99, Try.ntmps99
      go_wp2_with fail
      refine (pick_rd b q0 2 w0 w H.out ⟨by omega, by omega⟩ ⟨by omega, by omega⟩).mono ?_
      rintro e w1 ⟨k1, rfl, hk1, H1, _, _, _⟩
      by_cases hk0 : k1 = 0
      · subst hk0
        go_wp2_with fail
        have HPL : Aside0 (PlanAt b (w1.alloc (.cells #[.string ⟨#[97, 97, 97, 98]⟩, .string ⟨#[99, 100, 100, 98]⟩, .string ⟨#[99, 100, 100, 98]⟩, .string ⟨#[99, 101, 101, 101]⟩] 9)) (some ⟨w1.heap.size, 0, none⟩) 4 four4) := ⟨lit_at (Reader.lt H1.out) four4 (by decide)⟩
        refine (pick_rd b (q0 + 1) 4 w0 _ (H1.out.alloc _) ⟨by omega, by omega⟩ ⟨by omega, by omega⟩).mono ?_
        rintro e w9 ⟨k9, rfl, hk9, H9, _, H9b, H9c⟩
        have HP9 := Aside0.mk (HPL.out.move (fun j h1 _ => H9b.out j h1) (by rw [H9c.out]; exact Nat.le_refl _))
        clear H9b H9c HPL
        have HCU : Aside0 (Calls Try.prog 176 #[.pointer (some ⟨b, 0, none⟩), .slice (some ⟨w1.heap.size, 0, none⟩) 4 4, .int .i64 k9] w9 fun e w' => DrewP 4 w0 b (q0 + 1 + 1 + 40) w' e) := ⟨l91Cut_any b (q0 + 1 + 1) w0 w9 H9.out ⟨by omega, by omega⟩ (some ⟨w1.heap.size, 0, none⟩) 4 four4 HP9.out four4_plan k9 (by omega)⟩
        go_wp2_with fail
        refine HCU.out.mono ?_
        rintro e w10 ⟨q10, A10, c10, qn, rfl, hl, hn0, hn1, HD⟩
        go_wp2_with fail
        go_ret
        exact ⟨q10, A10, c10, qn, by rw [hl]; rfl, hl, hn0, by omega, HD⟩
      · have hkz : ((k1 : Int) == 0) = false := by rw [beq_eq_false_iff_ne]; omega
        go_wp2_with fail
        refine (HEM.out _).mono ?_
        rintro e w8 ⟨v8, rfl, hR8, hb8⟩
        have HR8 := Aside0.mk (H1.out.on hb8)
        have HO8 := Aside0.mk (Kd.own_of_R (enc := Value.string) (h1 := fun _ => rfl) hR8)
        obtain ⟨A8, c8, rfl⟩ := own_slice HO8.out
        have HP8 : Aside0 (PlanAt b w8 A8 c8 (emptyT 4 4)) := ⟨PlanAt.own HO8.out rfl (Reader.lt H1.out)⟩
        clear hb8 hR8 HO8
        go_wp2_with fail
        refine (pick_rd b (q0 + 1) 9 w0 w8 HR8.out ⟨by omega, by omega⟩ ⟨by omega, by omega⟩).mono ?_
        rintro e w9 ⟨k9, rfl, hk9, H9, _, H9b, H9c⟩
        have HP9 := Aside0.mk (HP8.out.move (fun j h1 _ => H9b.out j h1) (by rw [H9c.out]; exact Nat.le_refl _))
        clear H9b H9c HP8 HR8
        go_wp2_with fail
        refine (l91Cut_any b ((q0 + 1) + 1) w0 w9 H9.out ⟨by omega, by omega⟩ A8 c8 (emptyT 4 4) HP9.out HEP.out k9 (by omega)).mono ?_
        rintro e w10 ⟨q10, A10, c10, qn, rfl, hl, hn0, hn1, HD⟩
        go_wp2_with fail
        go_ret
        exact ⟨q10, A10, c10, qn, by rw [hl, HEL.out]; rfl, hl.trans HEL.out, hn0, by omega, HD⟩
    · by_cases n3 : n = 3
      · subst n3
        have z1 : ((m : Int) == 3) = false := by rw [beq_eq_false_iff_ne]; omega
        clear a3 a4 hn1 hn5
        go_enter Try.func99, Try.ntmps99
        go_wp2_with fail
        refine (HEM.out _).mono ?_
        rintro e w8 ⟨v8, rfl, hR8, hb8⟩
        have HR8 := Aside0.mk (H.out.on hb8)
        have HO8 := Aside0.mk (Kd.own_of_R (enc := Value.string) (h1 := fun _ => rfl) hR8)
        obtain ⟨A8, c8, rfl⟩ := own_slice HO8.out
        have HP8 : Aside0 (PlanAt b w8 A8 c8 (emptyT 3 m)) := ⟨PlanAt.own HO8.out rfl (Reader.lt H.out)⟩
        clear hb8 hR8 HO8
        go_wp2_with fail
        refine (pick_rd b q0 9 w0 w8 HR8.out ⟨by omega, by omega⟩ ⟨by omega, by omega⟩).mono ?_
        rintro e w9 ⟨k9, rfl, hk9, H9, _, H9b, H9c⟩
        have HP9 := Aside0.mk (HP8.out.move (fun j h1 _ => H9b.out j h1) (by rw [H9c.out]; exact Nat.le_refl _))
        clear H9b H9c HP8 HR8
        go_wp2_with fail
        refine (l91Cut_any b (q0 + 1) w0 w9 H9.out ⟨by omega, by omega⟩ A8 c8 (emptyT 3 m) HP9.out HEP.out k9 (by omega)).mono ?_
        rintro e w10 ⟨q10, A10, c10, qn, rfl, hl, hn0, hn1, HD⟩
        go_wp2_with fail
        go_ret
        exact ⟨q10, A10, c10, qn, by rw [hl, HEL.out]; rfl, hl.trans HEL.out, hn0, by omega, HD⟩
      · by_cases n4 : n = 4
        · subst n4
          have z1 : ((m : Int) == 4) = false := by rw [beq_eq_false_iff_ne]; omega
          clear a3 a4 hn1 hn5 n3
          go_enter Try.func99, Try.ntmps99
          go_wp2_with fail
          refine (HEM.out _).mono ?_
          rintro e w8 ⟨v8, rfl, hR8, hb8⟩
          have HR8 := Aside0.mk (H.out.on hb8)
          have HO8 := Aside0.mk (Kd.own_of_R (enc := Value.string) (h1 := fun _ => rfl) hR8)
          obtain ⟨A8, c8, rfl⟩ := own_slice HO8.out
          have HP8 : Aside0 (PlanAt b w8 A8 c8 (emptyT 4 m)) := ⟨PlanAt.own HO8.out rfl (Reader.lt H.out)⟩
          clear hb8 hR8 HO8
          go_wp2_with fail
          refine (pick_rd b q0 9 w0 w8 HR8.out ⟨by omega, by omega⟩ ⟨by omega, by omega⟩).mono ?_
          rintro e w9 ⟨k9, rfl, hk9, H9, _, H9b, H9c⟩
          have HP9 := Aside0.mk (HP8.out.move (fun j h1 _ => H9b.out j h1) (by rw [H9c.out]; exact Nat.le_refl _))
          clear H9b H9c HP8 HR8
          go_wp2_with fail
          refine (l91Cut_any b (q0 + 1) w0 w9 H9.out ⟨by omega, by omega⟩ A8 c8 (emptyT 4 m) HP9.out HEP.out k9 (by omega)).mono ?_
          rintro e w10 ⟨q10, A10, c10, qn, rfl, hl, hn0, hn1, HD⟩
          go_wp2_with fail
          go_ret
          exact ⟨q10, A10, c10, qn, by rw [hl, HEL.out]; rfl, hl.trans HEL.out, hn0, by omega, HD⟩
        · have z1 : ((n : Int) == 3) = false := by rw [beq_eq_false_iff_ne]; omega
          have z2 : ((n : Int) == 4) = false := by rw [beq_eq_false_iff_ne]; omega
          clear a3 a4 n3 n4
          go_enter Try.func99, Try.ntmps99
          go_wp2_with fail
          refine (HEM.out _).mono ?_
          rintro e w8 ⟨v8, rfl, hR8, hb8⟩
          have HR8 := Aside0.mk (H.out.on hb8)
          have HO8 := Aside0.mk (Kd.own_of_R (enc := Value.string) (h1 := fun _ => rfl) hR8)
          obtain ⟨A8, c8, rfl⟩ := own_slice HO8.out
          have HP8 : Aside0 (PlanAt b w8 A8 c8 (emptyT n m)) := ⟨PlanAt.own HO8.out rfl (Reader.lt H.out)⟩
          clear hb8 hR8 HO8
          go_wp2_with fail
          refine (pick_rd b q0 9 w0 w8 HR8.out ⟨by omega, by omega⟩ ⟨by omega, by omega⟩).mono ?_
          rintro e w9 ⟨k9, rfl, hk9, H9, _, H9b, H9c⟩
          have HP9 := Aside0.mk (HP8.out.move (fun j h1 _ => H9b.out j h1) (by rw [H9c.out]; exact Nat.le_refl _))
          clear H9b H9c HP8 HR8
          go_wp2_with fail
          refine (l91Cut_any b (q0 + 1) w0 w9 H9.out ⟨by omega, by omega⟩ A8 c8 (emptyT n m) HP9.out HEP.out k9 (by omega)).mono ?_
          rintro e w10 ⟨q10, A10, c10, qn, rfl, hl, hn0, hn1, HD⟩
          go_wp2_with fail
          go_ret
          exact ⟨q10, A10, c10, qn, by rw [hl, HEL.out]; rfl, hl.trans HEL.out, hn0, by omega, HD⟩
end Go.Proofs.Ytdhnjecbdclmaaa
end
section
namespace Go.Proofs.Ytdhnjecbdclmaaa
open Go.RowKit Go.Shelf Go.Proofs.YtdhnjecbdclmaaaW.PrintWords Go.Proofs.YtdhnjecbdclmaaaW.PrintMore
set_option linter.unusedVariables false
def CodeRow (w : World) (a0 : Option Addr) (len0 cap0 : Nat) (z0 : List Int) : Prop := (a0 = none ∧ len0 = 0 ∧ cap0 = 0 ∧ z0 = []) ∨ ∃ x, a0 = some x ∧ len0 ≤ cap0 ∧ cap0 ≤ maxLen ∧ z0.length = cap0 ∧ (∀ i, i < z0.length → w.cell? (x.add i) = some (.int .u8 (z0.getD i 0))) ∧ ∀ n ∈ z0, (Lit.int .u8 n).wf = true
theorem CodeRow.code {w : World} {a0 : Option Addr} {len0 cap0 : Nat} {z0 : List Int} (h : CodeRow w a0 len0 cap0 z0) : ∃ bs, Code0 w a0 len0 cap0 bs := by
  obtain ⟨l0, rfl, hr0, hm0, hw0, hc0⟩ := ReadsInt.ofRowC h
  refine ⟨l0, hc0, Kd.C_of_reads (d := (0 : Int)) (h1 := fun _ => rfl) hr0, fun x hx => ?_⟩
  have := hw0 x hx
  unfold Lit.wf at this
  rw [Bool.and_eq_true, decide_eq_true_eq, decide_eq_true_eq] at this
  exact this
end Go.Proofs.Ytdhnjecbdclmaaa
end
section
namespace Go.Proofs.Ytdhnjecbdclmaaa
open Go.RowKit Go.Shelf Go.Proofs.YtdhnjecbdclmaaaW.PrintWords Go.Proofs.YtdhnjecbdclmaaaW.PrintMore
set_option linter.unusedVariables false
set_option linter.unusedSimpArgs false
theorem add_blk (a : Addr) (n : Nat) : (a.add n).block = a.block := by unfold Addr.add; split <;> rfl
theorem C_grown {w w1 : World} {A : Option Addr} {q : List ByteArray} {row : Option Nat} (h : Kd.C Kd.string w A q.length q) (hg : w.grownBy w1 row) (hn : ∀ a, A = some a → some a.block ≠ row) : Kd.C Kd.string w1 A q.length q := by
  have hr := Kd.reads_of_C (enc := Value.string) (d := ByteArray.empty) (h1 := fun _ => rfl) h
  refine Kd.C_of_reads (d := ByteArray.empty) (enc := Value.string) (h1 := fun _ => rfl) ⟨hr.1, hr.2.1, fun h0 => ?_⟩
  obtain ⟨ad, hA, hc⟩ := hr.2.2 h0
  exact ⟨ad, hA, fun j hj => hg.cell (hc j hj) (by rw [add_blk]; exact hn ad hA)⟩
theorem C_block {w : World} {A : Option Addr} {q : List ByteArray} (h : Kd.C Kd.string w A q.length q) (hq : 0 < q.length) {b : Nat} {t : TypeId} {fr : Nat × Nat} (hb : w.heap[b]? = some (.cells #[] t fr)) : ∀ a, A = some a → a.block < w.heap.size ∧ a.block ≠ b := by
  have hr := Kd.reads_of_C (enc := Value.string) (d := ByteArray.empty) (h1 := fun _ => rfl) h
  obtain ⟨ad, hA, hc⟩ := hr.2.2 hq
  intro a ha
  rw [hA] at ha
  injection ha with ha
  subst ha
  have := hc 0 hq
  refine ⟨?_, fun e => ?_⟩
  · have := World.block_lt_of_cell? w _ this
    rwa [add_blk] at this
  · unfold World.cell? at this
    rw [add_blk, e, hb] at this
    simp at this
def cutStuckP (p : List ByteArray) : List Int := if planG p then stuckRooms p else []
set_option maxRecDepth 100000 in
set_option maxHeartbeats 8000000 in
theorem specCutStuck_any (A : Option Addr) (cap : Nat) (p : List ByteArray) (hp : SmallP p) (w : World) (hr0 : Kd.C Kd.string w A p.length p) (hc0 : p.length ≤ cap) :
    Calls Try.prog 41 #[.slice A p.length cap] w fun e w' => (∃ A' c', e = .returned (.tuple #[.slice A' (cutStuckP p).length c', .bool (decide (0 < (cutStuckP p).length))]) ∧ w'.ownsRow w.heap.size 3 1 (.slice A' (cutStuckP p).length c') (cutStuckP p).length (nums .i64 (cutStuckP p))) ∧ Below w.heap.size w w' := by
  have HPI := Aside0.mk (fun W (hW : Below w.heap.size w W) => spec_PlanIn.calls A cap p (planG p) W (Kd.C_below hr0 hW) hc0 (by unfold spec_PlanIn.f; rw [if_pos hp]))
  have HB0 : Aside0 (Below w.heap.size w (w.alloc (.cells #[] 3))) := ⟨(Below.refl _ _).alloc (Nat.le_refl _) _⟩
  have HO0 : Aside0 ((w.alloc (.cells #[] 3)).ownsRow w.heap.size 3 1 (.slice (some ⟨w.heap.size, 0, none⟩) 0 0) 0 (nums .i64 [])) := ⟨own_lit w w.heap.size 3 .i64 [] (Nat.le_refl _) (by simp)⟩
  by_cases hpl : planG p = true
  · have hv : cutStuckP p = stuckRooms p := by unfold cutStuckP; rw [if_pos hpl]
    rw [hv, ← outK_rooms p]
    rw [hpl] at HPI
    have f := planFlat hpl
    have hhi := f.high
    have hwi := f.wide
    have hfew := f.few
    have F := Aside0.mk f
    have HST := Aside0.mk (fun W (hW : Below w.heap.size w W) => specStuck_any f 13 (by omega) 0 0 p.length (wdP p) p (by omega) f.whole (planTG hpl) A cap W (Kd.C_below hr0 hW) hc0)
    obtain ⟨kr, hkr⟩ := plan_rooms hpl
    have HRM := Aside0.mk (fun W (hW : Below w.heap.size w W) => L2.spec_l1Rooms.calls kr A cap p _ W (Kd.C_below hr0 hW) hc0 hkr)
    have HWW := Aside0.mk (fun R hR => stuck_whole f 13 0 0 p.length (wdP p) f.whole R hR)
    change Aside0 (∀ R, stuckO p = some R → _) at HWW
    change Aside0 (∀ W (hW : Below w.heap.size w W), Calls Try.prog 100 #[.slice A p.length cap] W fun e w' => StuckE (clP p) (stuckO p) W w' e) at HST
    obtain ⟨o, ho⟩ : ∃ o, stuckO p = o := ⟨_, rfl⟩
    rw [ho] at HWW HST
    rw [ho]
    obtain ⟨cl, hcl⟩ : ∃ cl, clP p = cl := ⟨_, rfl⟩
    obtain ⟨boxes, hbx⟩ : ∃ b, boxesP p = b := ⟨_, rfl⟩
    rw [hcl] at HWW HST F
    rw [hbx] at HRM F hfew
    rw [hbx]
    clear hv hkr hpl f hcl hbx ho hr0
    go_enter Try.func41, Try.ntmps41
    go_wp2_with fail
    refine (HPI.out _ HB0.out).mono ?_
    rintro e w1 ⟨rfl, hb1⟩
    have HB1 := Aside0.mk (HB0.out.trans (hb1.mono HB0.out.size))
    have HO1 := Aside0.mk (pw_own_below HO0.out hb1)
    have HE1 : Aside0 (w1.heap[w.heap.size]? = some (.cells #[] 3 (0, 0))) := ⟨(hb1.block _ (by simp)).trans (heap_alloc_new w _)⟩
    have HS1 : Aside0 (w.heap.size < w1.heap.size) := ⟨by have := hb1.size; simp at this; omega⟩
    clear hb1
    go_wp2_with fail
    refine (HST.out _ HB1.out).mono ?_
    rintro e w2 ⟨q, A2, c2, n2, rfl, rfl, hl2, hC2, hT2, hb2⟩
    have HB2 := Aside0.mk (HB1.out.trans (hb2.mono HB1.out.size))
    have HO2 := Aside0.mk (pw_own_below HO1.out hb2)
    have HE2 : Aside0 (w2.heap[w.heap.size]? = some (.cells #[] 3 (0, 0))) := ⟨(hb2.block _ HS1.out).trans HE1.out⟩
    have HS2 : Aside0 (w.heap.size < w2.heap.size) := ⟨by have := hb2.size; have := HS1.out; omega⟩
    have HC2 := Aside0.mk hC2
    have HT2 := Aside0.mk hT2
    have hq : q.length ≤ 6 ∧ (o = none ↔ q.length = 0) := by
      cases o with
      | none =>
        have hT2 : q = [] := hT2
        rw [hT2]; simp
      | some R =>
        have t : TG q R.2.2.1 R.2.2.2 (gridOf cl R.1 R.2.1) := hT2
        have h1 := t.len
        have h2 := t.high
        exact ⟨by omega, fun h => (by cases h), fun h => (by omega)⟩
    have HQ := Aside0.mk hq.2
    have HBK : Aside0 (0 < q.length → ∀ a, A2 = some a → a.block < w2.heap.size ∧ a.block ≠ w.heap.size) := ⟨fun h => C_block hC2 h HE2.out⟩
    clear hb2 hC2 hT2 hq
    go_wp2_with fail
    go_loopw [4, 6] (fun v i wr => ∃ (k n c : Nat) (A : Option Addr), i = .int .i64 k ∧ k ≤ boxes.length ∧ v = .slice A n c ∧ Aside0 (n = (outK boxes o k).length ∧ wr.ownsRow w.heap.size 3 1 (.slice A n c) n (nums .i64 (outK boxes o k)) ∧ Below w.heap.size w wr ∧ w2.heap.size ≤ wr.heap.size ∧ Kd.C Kd.string wr A2 q.length q ∧ ∀ a, A = some a → a.block = w.heap.size ∨ w2.heap.size ≤ a.block)) (fun _ i _ => boxes.length - (intOf i).toNat)
    case atStart =>
      refine ⟨0, 0, 0, some ⟨w.heap.size, 0, none⟩, rfl, Nat.zero_le _, rfl, ⟨?_, ?_, HB2.out, Nat.le_refl _, HC2.out, fun a ha => ?_⟩⟩
      · cases o <;> rfl
      · have : outK boxes o 0 = [] := by cases o <;> rfl
        rw [this]; exact HO2.out
      · injection ha with ha; exact .inl (by rw [← ha])
    case round =>
      obtain ⟨k, n, c, A1, rfl, hk, rfl, HD⟩ := hrel
      go_wp2_with fail
      refine (HRM.out _ HD.out.2.2.1).mono ?_
      rintro e w3 ⟨rfl, hb3⟩
      have HB3 := Aside0.mk hb3
      clear hb3
      by_cases hlt : (k : Int) < (boxes.length : Int)
      · have hkl : k < boxes.length := by omega
        cases o with
        | none =>
          have hz : ¬ 0 < q.length := by have := HQ.out.1 rfl; omega
          go_wp2_with fail
          refine ⟨⟨k + 1, n, c, A1, by push_cast; rfl, by omega, rfl, ⟨HD.out.1, pw_own_below HD.out.2.1 HB3.out, HD.out.2.2.1.trans (HB3.out.mono HD.out.2.2.1.size), Nat.le_trans HD.out.2.2.2.1 HB3.out.size, Kd.C_below HD.out.2.2.2.2.1 HB3.out, HD.out.2.2.2.2.2⟩⟩, by simp [intOf]; omega⟩
        | some R =>
          have t : TG q R.2.2.1 R.2.2.2 (gridOf cl R.1 R.2.1) := HT2.out
          have hql : 0 < q.length := by have h1 := t.len; have h2 := t.high; omega
          obtain ⟨m, j, hj, hm, hmm⟩ := cells_part F.out (HWW.out R rfl) t k hkl
          have HCL := Aside0.mk (L2.spec_l1Cells.calls j A2 c2 q (k : Int) m w3 (Kd.C_below HD.out.2.2.2.2.1 HB3.out) hl2 hj)
          have HMM := Aside0.mk hmm
          clear hj hmm t
          by_cases hm0 : 0 < m
          · have hyes := listL_yes (b := boxR R) hkl (HMM.out.1 hm0)
            have HYES := Aside0.mk hyes
            clear hyes
            go_wp2_with (first | (go_at_call 102; refine HCL.out.mono ?_; rintro e w4 ⟨rfl, nd, rfl⟩; have HB4 : Aside0 (Below w.heap.size w (w3.drewN nd)) := ⟨pw_below_drewN (HD.out.2.2.1.trans (HB3.out.mono HD.out.2.2.1.size)) _⟩) | (at_builtin; refine print_append_num (w0 := w) w.heap.size rfl (.tmp 29) (.tmp 31) 37 3 .i64 8 rfl Try.underlying37 (by kernel_rfl) (by omega) _ (outK boxes (some R) k) (k : Int) rfl rfl ?k1 ?k4 ?k3 ?k2 ?_; (case k1 => rw [← HD.out.1]; exact pw_own_below (pw_own_below HD.out.2.1 HB3.out) (pw_below_drewN (Below.refl _ _) _)); (case k4 => exact HB4.out); (case k3 => exact HB4.out.size); (case k2 => have := outK_len boxes (some R) k; omega); intro v1 w5 ho hB hg hat; have HO5 := Aside0.mk ho; have HB5 := Aside0.mk hB; have HG5 := Aside0.mk hg; have HAT := Aside0.mk hat; clear ho hB hg hat))
            obtain ⟨A5, c5, rfl⟩ := own_slice HO5.out
            have hrow : outK boxes (some R) (k + 1) = outK boxes (some R) k ++ [(k : Int)] := HYES.out
            have hsz : w2.heap.size ≤ (w3.drewN nd).heap.size := Nat.le_trans HD.out.2.2.2.1 HB3.out.size
            refine ⟨⟨k + 1, (outK boxes (some R) k ++ [(k : Int)]).length, c5, A5, by push_cast; rfl, by omega, rfl, ⟨by rw [hrow], by rw [hrow]; exact HO5.out, HB5.out, Nat.le_trans hsz HG5.out.size, ?_, ?_⟩⟩, by simp [intOf]; omega⟩
            · refine C_grown (Kd.C_below (Kd.C_below HD.out.2.2.2.2.1 HB3.out) (pw_below_drewN (Below.refl _ _) nd)) HG5.out ?_
              intro a ha e
              have h1 := HBK.out hql a ha
              cases A1 with
              | none => cases e
              | some a1 =>
                have e1 : a.block = a1.block := Option.some.inj e
                rcases HD.out.2.2.2.2.2 a1 rfl with h2 | h2 <;> omega
            · intro a ha
              subst ha
              rcases HAT.out with h | ⟨b, h, hb⟩
              · cases A1 with
                | none => cases h
                | some a1 =>
                  have e1 : a.block = a1.block := Option.some.inj h
                  rw [e1]; exact HD.out.2.2.2.2.2 a1 rfl
              · have e1 : a.block = b := Option.some.inj h
                right; omega
          · have hno := listL_no (b := boxR R) hkl (fun e => hm0 (HMM.out.2 e))
            have HNO := Aside0.mk hno
            clear hno
            go_wp2_with (first | (go_at_call 102; refine HCL.out.mono ?_; rintro e w4 ⟨rfl, nd, rfl⟩))
            have HBD : Below wr.heap.size wr (w3.drewN nd) := pw_below_drewN HB3.out _
            refine ⟨⟨k + 1, n, c, A1, by push_cast; rfl, by omega, rfl, ⟨by show n = (listL boxes (boxR R) (k + 1)).length; rw [HNO.out]; exact HD.out.1, by show World.ownsRow _ _ _ _ _ _ (nums .i64 (listL boxes (boxR R) (k + 1))); rw [HNO.out]; exact pw_own_below HD.out.2.1 HBD, HD.out.2.2.1.trans (HBD.mono HD.out.2.2.1.size), Nat.le_trans HD.out.2.2.2.1 HBD.size, Kd.C_below HD.out.2.2.2.2.1 HBD, HD.out.2.2.2.2.2⟩⟩, by simp [intOf]; omega⟩
      · have hke : k = boxes.length := by omega
        subst hke
        go_wp2_with fail
        go_ret2
        obtain ⟨h1, h2, h3, _⟩ := HD.out
        subst h1
        exact ⟨⟨A1, c, rfl, pw_own_below h2 HB3.out⟩, h3.trans (HB3.out.mono h3.size)⟩
  · have hplf : planG p = false := by simpa using hpl
    have hv : cutStuckP p = [] := by unfold cutStuckP; rw [if_neg hpl]
    rw [hv]
    rw [hplf] at HPI
    clear hv hpl hplf hr0
    go_enter Try.func41, Try.ntmps41
    go_wp2_with fail
    refine (HPI.out _ HB0.out).mono ?_
    rintro e w1 ⟨rfl, hb1⟩
    have HB1 := Aside0.mk (HB0.out.trans (hb1.mono HB0.out.size))
    have HO1 := Aside0.mk (pw_own_below HO0.out hb1)
    clear hb1
    go_wp2_with fail
    go_ret2
    exact ⟨⟨_, _, rfl, HO1.out⟩, HB1.out⟩
end Go.Proofs.Ytdhnjecbdclmaaa
end
section
namespace Go.Proofs.Ytdhnjecbdclmaaa
open Go.RowKit Go.Shelf Go.Proofs.YtdhnjecbdclmaaaW.PrintWords Go.Proofs.YtdhnjecbdclmaaaW.PrintMore
set_option linter.unusedVariables false
set_option linter.unusedSimpArgs false
theorem str_row (l : List Int) : strOfNums (l.map fun x => 97 + x) = rowText l := by
  unfold strOfNums rowText rowBytes letOf
  rw [List.map_map]
  rfl
theorem rooms_small (p : List ByteArray) (h : planG p = true) : (stuckRooms p).length ≤ 9 ∧ ∀ k : Nat, k < (stuckRooms p).length → 0 ≤ rd (stuckRooms p) k ∧ rd (stuckRooms p) k ≤ 100 := by
  have f := planFlat h
  have hfew := f.few
  unfold stuckRooms
  cases stuckO p with
  | none => exact ⟨Nat.zero_le _, fun k hk => absurd hk (Nat.not_lt_zero _)⟩
  | some R =>
    have hll := listL_len (boxesP p) (boxR R) (boxesP p).length
    refine ⟨by show (listL _ _ _).length ≤ 9; omega, fun k hk => ?_⟩
    change k < (listL (boxesP p) (boxR R) (boxesP p).length).length at hk
    show 0 ≤ rd (listL (boxesP p) (boxR R) (boxesP p).length) k ∧ rd (listL (boxesP p) (boxR R) (boxesP p).length) k ≤ 100
    rw [rd_get hk]
    obtain ⟨m, e, hm, _⟩ := listL_mem (List.getElem_mem hk)
    rw [e]; omega
theorem add_take {l : List Int} {k : Nat} (hk : k < l.length) : (l.take (k + 1)).map (fun x => 97 + x) = (l.take k).map (fun x => 97 + x) ++ [97 + rd l k] := by
  rw [List.take_succ_eq_append_getElem hk, List.map_append]
  unfold rd
  rw [Int.toNat_natCast, List.getD_eq_getElem?_getD, List.getElem?_eq_getElem hk]
  rfl
set_option maxRecDepth 100000 in
set_option maxHeartbeats 8000000 in
theorem specProofCut_any (A : Option Addr) (cap : Nat) (p : List ByteArray) (hp : SmallP p) (w : World) (hr0 : Kd.C Kd.string w A p.length p) (hc0 : p.length ≤ cap) :
    Calls Try.prog 34 #[.slice A p.length cap] w fun e w' => e = .returned (.tuple #[.string (proofCutP p).1, .bool (proofCutP p).2]) ∧ Below w.heap.size w w' := by
  have HPI := Aside0.mk (fun W (hW : Below w.heap.size w W) => spec_PlanIn.calls A cap p (planG p) W (Kd.C_below hr0 hW) hc0 (by unfold spec_PlanIn.f; rw [if_pos hp]))
  by_cases hpl : planG p = true
  · have HCS := Aside0.mk (fun W (hW : Below w.heap.size w W) => specCutStuck_any A cap p hp W (Kd.C_below hr0 hW) hc0)
    have hv : cutStuckP p = stuckRooms p := by unfold cutStuckP; rw [if_pos hpl]
    rw [hv] at HCS
    rw [hpl] at HPI
    have f := planFlat hpl
    have hhi := f.high
    have hwi := f.wide
    obtain ⟨s, he, hs⟩ := spec_text p hpl
    obtain ⟨kt, hkt⟩ := he.ex
    have HTX := Aside0.mk (fun W (hW : Below w.heap.size w W) => L3.spec_l3Text.calls kt A cap p s _ W (Kd.C_below hr0 hW) hc0 hkt)
    have hlen := textL_len (clP p) (boxesP p) 13 (0, 0, p.length, wdP p)
    change ∀ x, cutTextO p = some x → _ at hlen
    obtain ⟨hl9, hle⟩ := rooms_small p hpl
    cases ho : cutTextO p with
    | some x =>
      have hsx := hs x ho
      have hxl := hlen x ho
      have hval : proofCutP p = (wCut ++ ⟨x.toArray⟩, true) := by unfold proofCutP; rw [if_pos hpl, ho]
      have HV := Aside0.mk hval
      rw [ho, hsx] at HTX
      have hsz : x.length ≤ 10000 := by omega
      clear hval hlen hxl hl9 hle hsx hs he hkt f hv hpl ho hr0 hhi hwi
      go_enter Try.func34, Try.ntmps34
      go_wp2_with fail
      refine (HPI.out _ (Below.refl _ _)).mono ?_
      rintro e w1 ⟨rfl, hb1⟩
      have HB1 := Aside0.mk hb1
      clear hb1
      go_wp2_with fail
      refine (HTX.out _ HB1.out).mono ?_
      rintro e w2 ⟨rfl, hb2⟩
      have HB2 := Aside0.mk (HB1.out.trans (hb2.mono HB1.out.size))
      clear hb2
      go_wp2_with fail
      go_ret2
      exact ⟨by rw [HV.out]; rfl, HB2.out⟩
    | none =>
      have hval : proofCutP p = (wStuck ++ rowText (stuckRooms p), true) := by unfold proofCutP; rw [if_pos hpl, ho]
      have HV := Aside0.mk hval
      rw [ho] at HTX
      obtain ⟨L, hL⟩ : ∃ L, stuckRooms p = L := ⟨_, rfl⟩
      rw [hL] at HV HCS hle hl9
      have HLE := Aside0.mk hle
      have hrs : (rowText L).size ≤ 100 := by
        unfold rowText rowBytes
        show (List.map letOf L).toArray.size ≤ 100
        rw [List.size_toArray, List.length_map]; omega
      clear hval hlen hle hs he hkt f hv hpl ho hr0 hhi hwi hL
      go_enter Try.func34, Try.ntmps34
      go_wp2_with fail
      refine (HPI.out _ (Below.refl _ _)).mono ?_
      rintro e w1 ⟨rfl, hb1⟩
      have HB1 := Aside0.mk hb1
      clear hb1
      go_wp2_with fail
      refine (HTX.out _ HB1.out).mono ?_
      rintro e w2 ⟨rfl, hb2⟩
      have HB2 := Aside0.mk (HB1.out.trans (hb2.mono HB1.out.size))
      clear hb2
      go_wp2_with fail
      refine (HCS.out _ HB2.out).mono ?_
      rintro e w3 ⟨⟨A3, c3, rfl, ho3⟩, hb3⟩
      have HB3 := Aside0.mk (HB2.out.trans (hb3.mono HB2.out.size))
      have HC3 : Aside0 (Kd.C (Kd.int .i64) w3 A3 L.length L) := ⟨by
        obtain ⟨A', c', e, hrd⟩ := own_reads ho3
        injection e with e1 e2 e3
        subst e1
        exact Kd.C_of_reads (d := 0) (enc := Value.int .i64) (h1 := fun _ => rfl) hrd⟩
      have hc3 : L.length ≤ c3 := own_cap ho3
      clear hb3 ho3
      have HO4 : Aside0 ((w3.alloc (.cells #[] 5)).ownsRow w3.heap.size 5 1 (.slice (some ⟨w3.heap.size, 0, none⟩) 0 0) 0 (nums .u8 [])) := ⟨own_lit w3 w3.heap.size 5 .u8 [] (Nat.le_refl _) (by simp)⟩
      go_wp2_with fail
      go_loopw [8, 9] (fun v i wr => ∃ (k n c : Nat) (A : Option Addr), i = .int .i64 k ∧ k ≤ L.length ∧ v = .slice A n c ∧ Aside0 (n = ((L.take k).map fun x => 97 + x).length ∧ wr.ownsRow w3.heap.size 5 1 (.slice A n c) n (nums .u8 ((L.take k).map fun x => 97 + x)) ∧ Below w3.heap.size w3 wr)) (fun _ i _ => L.length - (intOf i).toNat)
      case atStart =>
        exact ⟨0, 0, 0, some ⟨w3.heap.size, 0, none⟩, rfl, Nat.zero_le _, rfl, ⟨rfl, HO4.out, (Below.refl _ _).alloc (Nat.le_refl _) _⟩⟩
      case round =>
        obtain ⟨k, n, c, A1, rfl, hk, rfl, HD⟩ := hrel
        by_cases hlt : k < L.length
        · obtain ⟨ad, hA, f0⟩ := Kd.at_int (Kd.C_below HC3.out HD.out.2.2) (k : Int) (by omega) (by omega)
          have HVX := HLE.out k hlt
          have hat := add_take hlt
          obtain ⟨x, hx⟩ : ∃ x, rd L (k : Int) = x := ⟨_, rfl⟩
          rw [hx] at HVX f0 hat
          rw [Int.toNat_natCast] at f0
          have h0 := HVX.1
          have h9 := HVX.2
          have HAT := Aside0.mk hat
          have hA' := Aside0.mk hA
          clear hx HVX hat
          subst hA
          have HNL : Aside0 (n ≤ 9) := ⟨by rw [HD.out.1, List.length_map, List.length_take]; omega⟩
          go_wp2_with (at_builtin; refine print_append_num (w0 := w3) w3.heap.size rfl (.tmp 33) (.tmp 40) 29 5 .u8 1 rfl Try.underlying29 (by kernel_rfl) (by omega) _ ((L.take k).map fun x => 97 + x) (97 + x) rfl rfl ?k1 ?k4 ?k3 ?k2 ?_; (case k1 => rw [← HD.out.1]; exact HD.out.2.1); (case k4 => exact HD.out.2.2); (case k3 => exact HD.out.2.2.size); (case k2 => rw [← HD.out.1]; have := HNL.out; omega); intro v1 w5 ho hB hg hat; have HO5 := Aside0.mk ho; have HB5 := Aside0.mk hB; clear ho hB hg hat)
          obtain ⟨A5, c5, rfl⟩ := own_slice HO5.out
          refine ⟨⟨k + 1, (((L.take k).map fun x => 97 + x) ++ [97 + x]).length, c5, A5, by push_cast; rfl, by omega, rfl, ⟨by rw [HAT.out], by rw [HAT.out]; exact HO5.out, HB5.out⟩⟩, by simp [intOf]; omega⟩
        · have hke : L.take k = L := List.take_of_length_le (by omega)
          have HO6 := HD.out.2.1
          rw [hke] at HO6
          have hcv := own_string (P := Try.prog) (src := 29) (dst := 9) Try.underlying29 Try.underlying5 Try.underlying9 HO6
          rw [str_row] at hcv
          clear HO6 hke
          go_wp2_with fail
          go_ret2
          exact ⟨by rw [HV.out]; rfl, HB3.out.trans (HD.out.2.2.mono HB3.out.size)⟩
  · have hplf : planG p = false := by simpa using hpl
    have hval : proofCutP p = (⟨#[]⟩, false) := by unfold proofCutP; rw [if_neg hpl]
    have HV := Aside0.mk hval
    rw [hplf] at HPI
    clear hval hpl hplf hr0
    go_enter Try.func34, Try.ntmps34
    go_wp2_with fail
    refine (HPI.out _ (Below.refl _ _)).mono ?_
    rintro e w1 ⟨rfl, hb1⟩
    have HB1 := Aside0.mk hb1
    clear hb1
    go_wp2_with fail
    go_ret2
    exact ⟨by rw [HV.out]; rfl, HB1.out⟩
end Go.Proofs.Ytdhnjecbdclmaaa
end
section
namespace Go.Proofs.Ytdhnjecbdclmaaa
open Go.RowKit Go.Shelf Go.Proofs.YtdhnjecbdclmaaaW.PrintWords Go.Proofs.YtdhnjecbdclmaaaW.PrintMore
set_option linter.unusedVariables false
set_option linter.unusedSimpArgs false
theorem in_parts {cl : Nat → Nat → Int} {r c ph pw : Nat} {x : Bool × Nat} (hx : x ∈ cutsL cl r c ph pw) (i j : Nat) :
    (InR r c ph pw i j ↔ InR (oneR r c ph pw x).1 (oneR r c ph pw x).2.1 (oneR r c ph pw x).2.2.1 (oneR r c ph pw x).2.2.2 i j ∨ InR (twoR r c ph pw x).1 (twoR r c ph pw x).2.1 (twoR r c ph pw x).2.2.1 (twoR r c ph pw x).2.2.2 i j) ∧
    ¬ (InR (oneR r c ph pw x).1 (oneR r c ph pw x).2.1 (oneR r c ph pw x).2.2.1 (oneR r c ph pw x).2.2.2 i j ∧ InR (twoR r c ph pw x).1 (twoR r c ph pw x).2.1 (twoR r c ph pw x).2.2.1 (twoR r c ph pw x).2.2.2 i j) := by
  have hc := cutsL_in hx
  obtain ⟨b, k⟩ := x
  cases b with
  | true =>
    simp only [if_true] at hc
    unfold InR oneR twoR
    simp only [if_true]
    omega
  | false =>
    simp only [Bool.false_eq_true, if_false] at hc
    unfold InR oneR twoR
    simp only [Bool.false_eq_true, if_false]
    omega
theorem list_cut {cl : Nat → Nat → Int} {boxes : List Box} {h wd r c ph pw : Nat} (f : Flat cl boxes h wd) (hw : Whole cl h wd r c ph pw) {x : Bool × Nat} (hx : x ∈ cutsL cl r c ph pw) : ∀ n, n ≤ boxes.length →
    (listL boxes (natB r c ph pw) n).length = (listL boxes (boxR (oneR r c ph pw x)) n).length + (listL boxes (boxR (twoR r c ph pw x)) n).length := by
  obtain ⟨w1, w2⟩ := whole_parts f hw hx
  intro n
  induction n with
  | zero => intro _; rfl
  | succ n ih =>
    intro hn
    have e := ih (by omega)
    have hk : n < boxes.length := by omega
    have h0 := room_within f hw n hk
    have h1 := room_within f w1 n hk
    have h2 := room_within f w2 n hk
    change bothB (boxR (oneR r c ph pw x)) boxes[n] = boxR (oneR r c ph pw x) ↔ _ at h1
    change bothB (boxR (twoR r c ph pw x)) boxes[n] = boxR (twoR r c ph pw x) ↔ _ at h2
    by_cases c1 : bothB (boxR (oneR r c ph pw x)) boxes[n] = boxR (oneR r c ph pw x)
    · have c2 : ¬ bothB (boxR (twoR r c ph pw x)) boxes[n] = boxR (twoR r c ph pw x) := fun c2 => by
        obtain ⟨i, j, g1, g2⟩ := h1.1 c1
        obtain ⟨i', j', g3, g4⟩ := h2.1 c2
        have := w1.all i j i' j' g1 (by have := w2.row; have := g3.1; omega) (by have := w2.col; have := g3.2; omega) (g2.trans g4.symm)
        exact (in_parts hx i' j').2 ⟨this, g3⟩
      have c0 : bothB (natB r c ph pw) boxes[n] = natB r c ph pw := by
        obtain ⟨i, j, g1, g2⟩ := h1.1 c1
        exact h0.2 ⟨i, j, (in_parts hx i j).1.2 (.inl g1), g2⟩
      rw [listL_yes hk c0, listL_yes hk c1, listL_no hk c2, List.length_append, List.length_append, e]
      simp only [List.length_singleton]; omega
    · by_cases c2 : bothB (boxR (twoR r c ph pw x)) boxes[n] = boxR (twoR r c ph pw x)
      · have c0 : bothB (natB r c ph pw) boxes[n] = natB r c ph pw := by
          obtain ⟨i, j, g1, g2⟩ := h2.1 c2
          exact h0.2 ⟨i, j, (in_parts hx i j).1.2 (.inr g1), g2⟩
        rw [listL_yes hk c0, listL_no hk c1, listL_yes hk c2, List.length_append, List.length_append, e]
        simp only [List.length_singleton]; omega
      · have c0 : ¬ bothB (natB r c ph pw) boxes[n] = natB r c ph pw := fun c0 => by
          obtain ⟨i, j, g1, g2⟩ := h0.1 c0
          rcases (in_parts hx i j).1.1 g1 with g | g
          · exact c1 (h1.2 ⟨i, j, g, g2⟩)
          · exact c2 (h2.2 ⟨i, j, g, g2⟩)
        rw [listL_no hk c0, listL_no hk c1, listL_no hk c2, e]
def cutN (s : List UInt8) : Nat := (s.filter fun x => x == 118 || x == 104).length
theorem cutN_app (a b : List UInt8) : cutN (a ++ b) = cutN a + cutN b := by unfold cutN; rw [List.filter_append, List.length_append]
theorem text_len {cl : Nat → Nat → Int} {boxes : List Box} {h wd : Nat} (f : Flat cl boxes h wd) : ∀ (n r c ph pw : Nat), Whole cl h wd r c ph pw → ∀ s, textL cl boxes n (r, c, ph, pw) = some s →
    s.length + 1 = 2 * (listL boxes (natB r c ph pw) boxes.length).length ∧ cutN s + 1 = (listL boxes (natB r c ph pw) boxes.length).length := by
  intro n
  induction n with
  | zero => intro r c ph pw _ s h; cases h
  | succ n ih =>
    intro r c ph pw hw s hs
    by_cases h1 : (listL boxes (natB r c ph pw) boxes.length).length = 1
    · rw [textL_one h1] at hs
      obtain rfl := Option.some.inj hs
      rw [h1]
      obtain ⟨k, e⟩ := List.length_eq_one_iff.1 h1
      obtain ⟨m, em, hm, _⟩ := listL_mem (k := k) (by rw [e]; exact List.mem_singleton.2 rfl)
      refine ⟨rfl, ?_⟩
      rw [e, em]
      have hfew := f.few
      have : cutN [capL [(m : Int)]] = 0 := by
        have : ∀ m : Fin 9, cutN [capL [((m.val : Nat) : Int)]] = 0 := by decide
        exact this ⟨m, by omega⟩
      omega
    · cases hx : (cutsL cl r c ph pw).head? with
      | none => rw [textL_none h1 hx] at hs; cases hs
      | some x =>
        have hxm := head_in hx
        obtain ⟨w1, w2⟩ := whole_parts f hw hxm
        have hcut := list_cut f hw hxm boxes.length (Nat.le_refl _)
        rw [textL_some h1 hx] at hs
        split at hs
        · rename_i a b ha hb
          obtain rfl := Option.some.inj hs
          obtain ⟨a1, a2⟩ := ih _ _ _ _ w1 a ha
          obtain ⟨b1, b2⟩ := ih _ _ _ _ w2 b hb
          change a.length + 1 = 2 * (listL boxes (boxR (oneR r c ph pw x)) boxes.length).length at a1
          change cutN a + 1 = (listL boxes (boxR (oneR r c ph pw x)) boxes.length).length at a2
          change b.length + 1 = 2 * (listL boxes (boxR (twoR r c ph pw x)) boxes.length).length at b1
          change cutN b + 1 = (listL boxes (boxR (twoR r c ph pw x)) boxes.length).length at b2
          have hl : cutN (letterL x :: (a ++ b)) = 1 + (cutN a + cutN b) := by
            rw [show letterL x :: (a ++ b) = [letterL x] ++ (a ++ b) from rfl, cutN_app, cutN_app]
            congr 1
            obtain ⟨bb, k⟩ := x
            cases bb <;> rfl
          refine ⟨?_, ?_⟩
          · simp only [List.length_cons, List.length_append]; omega
          · rw [hl]; omega
        · cases hs
theorem list_all {cl : Nat → Nat → Int} {boxes : List Box} {h wd : Nat} (f : Flat cl boxes h wd) : ∀ n, n ≤ boxes.length → (listL boxes (natB 0 0 h wd) n).length = n := by
  intro n
  induction n with
  | zero => intro _; rfl
  | succ n ih =>
    intro hn
    have hk : n < boxes.length := by omega
    have hy : bothB (natB 0 0 h wd) boxes[n] = natB 0 0 h wd := by
      obtain ⟨a, b, d, e, hb, h1, h2, h3, h4, _⟩ := f.box n hk
      rw [hb, both_within]; omega
    rw [listL_yes hk hy, List.length_append, ih (by omega)]
    rfl
theorem cutText_len {p : List ByteArray} (h : planG p = true) {s : List UInt8} (hs : cutTextO p = some s) : s.length + 1 = 2 * (boxesP p).length ∧ cutN s + 1 = (boxesP p).length := by
  have f := planFlat h
  have := text_len f 13 0 0 p.length (wdP p) f.whole s hs
  rwa [list_all f _ (Nat.le_refl _)] at this
end Go.Proofs.Ytdhnjecbdclmaaa
end
section
namespace Go.Proofs.Ytdhnjecbdclmaaa
open Go.RowKit Go.Shelf Go.Proofs.YtdhnjecbdclmaaaW.PrintWords Go.Proofs.YtdhnjecbdclmaaaW.PrintMore
set_option linter.unusedVariables false
set_option linter.unusedSimpArgs false
def DrewPl (w w' : World) (e : Ending) : Prop := ∃ (q : List ByteArray) (A' : Option Addr) (c' : Nat), e = .returned (.slice A' q.length c') ∧ Aside0 (planG q = true ∧ q.length ≤ c' ∧ Kd.C Kd.string w' A' q.length q ∧ Below w.heap.size w w')
set_option maxRecDepth 100000 in
set_option maxHeartbeats 4000000 in
theorem DrawCutStuck_any (A : Option Addr) (n cap : Nat) (bs : List Int) (w : World) (h : Code0 w A n cap bs) :
    Calls Try.prog 39 #[.slice A n cap] w fun e w' => DrewPl w w' e := by
  have H := Aside0.mk h
  clear h
  go_enter Try.func39, Try.ntmps39
  go_wp2_with fail
  refine (open_rd A n cap bs _ H.out).mono ?_
  rintro e w1 ⟨rfl, h1, h2⟩
  have H1 := Aside0.mk h1
  clear h1 h2
  go_wp2_with fail
  refine (pick_rd w.heap.size 0 2 w w1 H1.out ⟨by omega, by omega⟩ ⟨by omega, by omega⟩).mono ?_
  rintro e w2 ⟨k1, rfl, hk1, H2, _, _, _⟩
  go_wp2_with fail
  refine (pick_rd w.heap.size (0 + 1) 12 w w2 H2.out ⟨by omega, by omega⟩ ⟨by omega, by omega⟩).mono ?_
  rintro e w3 ⟨k2, rfl, hk2, H3, _, _, _⟩
  have HPN : Aside0 (∀ N M : Int, N = ((k1 + 3 : Nat) : Int) → M = ((k1 + 3 - k2 / 11 : Nat) : Int) → Calls Try.prog 99 #[.pointer (some ⟨w.heap.size, 0, none⟩), .int .i64 N, .int .i64 M] w3 fun e w' => DrewP (k1 + 3) w w.heap.size (0 + 1 + 1 + 50) w' e) := ⟨fun N M e1 e2 => by
    subst e1 e2
    exact l91Plan_any w.heap.size (0 + 1 + 1) w w3 H3.out ⟨by omega, by omega⟩ (k1 + 3) (k1 + 3 - k2 / 11) ⟨by omega, by omega⟩ ⟨by omega, by omega⟩⟩
  go_wp2_with fail
  refine (HPN.out _ _ (by omega) (by first | omega | (rw [Int.tdiv_eq_ediv_of_nonneg (by omega)]; omega))).mono ?_
  rintro e w4 ⟨q, A4, c4, qn, rfl, hl, _, _, HD⟩
  go_wp2_with fail
  go_ret
  exact ⟨q, A4, c4, by first | rfl | (rw [hl]; rfl) | (rw [← hl]; rfl), ⟨HD.out.1, HD.out.2.1.1, HD.out.2.1.2.1, Reader.bel HD.out.2.2⟩⟩
theorem DrawProofCut_any (A : Option Addr) (n cap : Nat) (bs : List Int) (w : World) (h : Code0 w A n cap bs) :
    Calls Try.prog 32 #[.slice A n cap] w fun e w' => DrewPl w w' e := by
  have H := Aside0.mk h
  clear h
  go_enter Try.func32, Try.ntmps32
  go_wp2_with fail
  refine (DrawCutStuck_any A n cap bs _ H.out).mono ?_
  rintro e w1 ⟨q, A2, c2, rfl, HD⟩
  go_wp2_with fail
  go_ret
  exact ⟨q, A2, c2, rfl, HD⟩
def DrewPS (w w' : World) (e : Ending) : Prop := ∃ (q : List ByteArray) (A' : Option Addr) (c' : Nat) (s : ByteArray), e = .returned (.tuple #[.slice A' q.length c', .string s]) ∧ Aside0 (planG q = true ∧ s.size ≤ 1000 ∧ q.length ≤ c' ∧ Kd.C Kd.string w' A' q.length q ∧ Below w.heap.size w w')
theorem proofCutP_size {p : List ByteArray} (h : planG p = true) : (proofCutP p).1.size ≤ 100 ∧ (proofCutP p).2 = true := by
  unfold proofCutP
  rw [if_pos h]
  cases ho : cutTextO p with
  | some s =>
    have h2 : s.length ≤ 90 := by
      have := (cutText_len h ho).1
      have := (planFlat h).few
      omega
    refine ⟨?_, rfl⟩
    show (wCut ++ (⟨s.toArray⟩ : ByteArray)).size ≤ 100
    rw [ByteArray.size_append]
    show 4 + s.toArray.size ≤ 100
    rw [List.size_toArray]; omega
  | none =>
    have h9 := (rooms_small p h).1
    refine ⟨?_, rfl⟩
    show (wStuck ++ rowText (stuckRooms p)).size ≤ 100
    rw [ByteArray.size_append]
    have : (rowText (stuckRooms p)).size = (stuckRooms p).length := by unfold rowText rowBytes; show (List.map letOf _).toArray.size = _; simp
    show 6 + _ ≤ 100
    omega
def isTexts : List ByteArray := [⟨#[99, 117, 116, 32, 65]⟩, ⟨#[99, 117, 116, 32, 118, 65, 66]⟩, ⟨#[99, 117, 116]⟩, ⟨#[115, 116, 117, 99, 107, 32, 97, 98, 99, 100, 101]⟩, ⟨#[115, 116, 117, 99, 107, 32, 97, 98]⟩, ⟨#[115, 116, 117, 99, 107, 32, 97]⟩, ⟨#[115, 116, 117, 99, 107, 32, 98, 97]⟩, ⟨#[115, 116, 117, 99, 107, 32]⟩, ⟨#[]⟩, ⟨#[120]⟩]
def moreTexts : List ByteArray := [⟨#[32]⟩, ⟨#[97]⟩, ⟨#[120]⟩]
theorem isTexts_small : ∀ s, s ∈ isTexts → s.size ≤ 100 := fun s hs => of_decide_eq_true (List.all_eq_true.1 (show isTexts.all (fun x => decide (x.size ≤ 100)) = true by decide) s hs)
theorem moreTexts_small : ∀ s, s ∈ moreTexts → s.size ≤ 100 := fun s hs => of_decide_eq_true (List.all_eq_true.1 (show moreTexts.all (fun x => decide (x.size ≤ 100)) = true by decide) s hs)
set_option maxRecDepth 100000 in
set_option maxHeartbeats 8000000 in
theorem DrawProofCutIs_any (A : Option Addr) (n cap : Nat) (bs : List Int) (w : World) (h : Code0 w A n cap bs) :
    Calls Try.prog 37 #[.slice A n cap] w fun e w' => DrewPS w w' e := by
  have H := Aside0.mk h
  clear h
  go_enter Try.func37, Try.ntmps37
  go_wp2_with fail
  refine (DrawCutStuck_any A n cap bs _ H.out).mono ?_
  rintro e w1 ⟨q, A1, c1, rfl, HD⟩
  obtain ⟨hsz, hok⟩ := proofCutP_size HD.out.1
  have HCALL := specProofCut_any A1 c1 q (plan_small HD.out.1) w1 HD.out.2.2.1 HD.out.2.1
  rw [hok] at HCALL
  have HSZ := Aside0.mk hsz
  obtain ⟨tx, htx⟩ : ∃ tx, (proofCutP q).1 = tx := ⟨_, rfl⟩
  rw [htx] at HSZ HCALL
  obtain ⟨m, hm⟩ : ∃ m, q.length = m := ⟨_, rfl⟩
  have HM := Aside0.mk hm
  rw [hm] at HCALL
  rw [hm]
  have htz := HSZ.out
  clear hsz hok htx hm
  go_wp2_with fail
  refine HCALL.mono ?_
  rintro e w2 ⟨rfl, h2⟩
  have HB2 : Aside0 (Below w1.heap.size w1 w2) := ⟨h2⟩
  have HB3 : Aside0 (Below w.heap.size w w2) := ⟨HD.out.2.2.2.trans (h2.mono HD.out.2.2.2.size)⟩
  have HK : Aside0 (∀ W', Below w2.heap.size w2 W' → Kd.C Kd.string W' A1 q.length q ∧ Below w.heap.size w W') := ⟨fun W' hW => ⟨Kd.C_below (Kd.C_below HD.out.2.2.1 HB2.out) hW, HB3.out.trans (hW.mono HB3.out.size)⟩⟩
  clear h2 HCALL
  have HO := open_rd A n cap bs w2 (H.out.below HB3.out)
  go_wp2_with fail
  refine HO.mono ?_
  rintro e w3 ⟨rfl, h3, h4⟩
  obtain ⟨fv, hfv⟩ := h3.field
  have c1' : w3.cell? ⟨w2.heap.size, 1, none⟩ = some (.int .i64 0) := by rw [Lib.cell_of_heap hfv]; rfl
  have z1 : w3.frozen? ⟨w2.heap.size, 1, none⟩ = false := Lib.frozen_of_heap hfv 1
  have HRD := Aside0.mk (h3.set 61)
  clear h3 h4 hfv HO
  go_wp2_with fail
  refine (pick_rd w2.heap.size 61 6 w2 _ HRD.out ⟨by omega, by omega⟩ ⟨by omega, by omega⟩).mono ?_
  rintro e w4 ⟨k1, rfl, hk1, H4, _, _, _⟩
  by_cases h0 : k1 = 0
  · subst h0
    go_wp2_with fail
    refine Calls.mono (of_any w2.heap.size (61 + 1) w2 _ ?hR ⟨by omega, by omega⟩ _ 10 ⟨by omega, by omega⟩ isTexts rfl ?hB ?hC) ?_
    case hR => exact H4.out.alloc _
    case hC => exact str_cells (new_at (by simp)) isTexts rfl
    case hB => have := H4.out.lt; (try simp at this); intro e; omega
    rintro e w5 ⟨s, hs, rfl, H5, _, _⟩
    have HS := Aside0.mk (isTexts_small s hs)
    clear hs
    go_wp2_with fail
    go_ret2
    obtain ⟨k1, k2⟩ := HK.out _ (Reader.bel H5.out)
    exact ⟨q, A1, c1, s, by rw [HM.out]; rfl, ⟨HD.out.1, Nat.le_trans HS.out (by omega), HD.out.2.1, k1, k2⟩⟩
  · have h0' : ((k1 : Int) == 0) = false := by rw [beq_eq_false_iff_ne]; omega
    go_wp2_with fail
    refine (pick_rd w2.heap.size (61 + 1) 6 w2 w4 H4.out ⟨by omega, by omega⟩ ⟨by omega, by omega⟩).mono ?_
    rintro e w5 ⟨k2, rfl, hk2, H5, _, _, _⟩
    by_cases h1 : k2 = 0
    · subst h1
      go_wp2_with fail
      refine Calls.mono (of_any w2.heap.size (61 + 1 + 1) w2 _ ?hR ⟨by omega, by omega⟩ _ 3 ⟨by omega, by omega⟩ moreTexts rfl ?hB ?hC) ?_
      case hR => exact H5.out.alloc _
      case hC => exact str_cells (new_at (by simp)) moreTexts rfl
      case hB => have := H5.out.lt; (try simp at this); intro e; omega
      rintro e w6 ⟨s, hs, rfl, H6, _, _⟩
      have HS := Aside0.mk (moreTexts_small s hs)
      have hs9 := HS.out
      clear hs
      go_wp2_with fail
      go_ret2
      obtain ⟨k1, k2⟩ := HK.out _ (Reader.bel H6.out)
      exact ⟨q, A1, c1, tx ++ s, by rw [HM.out]; rfl, ⟨HD.out.1, by rw [ByteArray.size_append]; omega, HD.out.2.1, k1, k2⟩⟩
    · have h1' : ((k2 : Int) == 0) = false := by rw [beq_eq_false_iff_ne]; omega
      go_wp2_with fail
      go_ret2
      obtain ⟨k1, k2⟩ := HK.out _ (Reader.bel H5.out)
      exact ⟨q, A1, c1, tx, by rw [HM.out]; rfl, ⟨HD.out.1, by have := HSZ.out; omega, HD.out.2.1, k1, k2⟩⟩
end Go.Proofs.Ytdhnjecbdclmaaa
end
section
namespace Go.Proofs.Ytdhnjecbdclmaaa
open Go.RowKit Go.Shelf Go.Proofs.YtdhnjecbdclmaaaW.PrintWords Go.Proofs.YtdhnjecbdclmaaaW.PrintMore
set_option linter.unusedVariables false
set_option maxRecDepth 100000 in
set_option maxHeartbeats 16000000 in
theorem list_own (fb h wd : Nat) (cl : Nat → Nat → Int) (boxes : List Box) (w : World) (hf : FloorR w fb h wd cl boxes) (b : Box) (hb : BoxIn b) (hbs : ∀ x ∈ boxes, BoxIn x) (hn : boxes.length ≤ 1000) :
    Calls Try.prog 90 #[partV fb b] w fun e w' => (∃ (A : Option Addr) (c : Nat), e = .returned (.slice A (listL boxes b boxes.length).length c) ∧ w'.ownsRow w.heap.size 3 1 (.slice A (listL boxes b boxes.length).length c) (listL boxes b boxes.length).length (nums .i64 (listL boxes b boxes.length))) ∧ Below w.heap.size w w' := by
  obtain ⟨b0, b1, b2, b3⟩ := b
  unfold partV
  dsimp only
  have HF := Aside0.mk hf
  have HBB := Aside0.mk hb
  have HBS := Aside0.mk hbs
  obtain ⟨g, rb, RA, rc, h1, h2, h3, h4, h5, h6⟩ := hf
  have HH1 := Aside0.mk h1
  have HH6 := Aside0.mk h6
  obtain ⟨W1, hW1⟩ : ∃ W1 : World, W1 = w.alloc (.cells #[.pointer (some ⟨fb, 0, none⟩), .int .i64 b0, .int .i64 b1, .int .i64 b2, .int .i64 b3] 58) := ⟨_, rfl⟩
  have ca : (w.alloc (.cells #[.pointer (some ⟨fb, 0, none⟩), .int .i64 b0, .int .i64 b1, .int .i64 b2, .int .i64 b3] 58)).cell? ⟨fb, 1, none⟩ = some (.slice RA boxes.length rc) := (World.cell?_of_block (Below.heap_alloc _ _ _ h1)).trans h4
  have HS1 : Aside0 (W1.heap.size = w.heap.size + 1) := ⟨by rw [hW1]; simp⟩
  have HB1 : Aside0 (Below w.heap.size w W1) := ⟨by rw [hW1]; exact (Below.refl _ _).alloc (Nat.le_refl _) _⟩
  have HT : Aside0 (W1.heap[w.heap.size]? = some (.cells #[.pointer (some ⟨fb, 0, none⟩), .int .i64 b0, .int .i64 b1, .int .i64 b2, .int .i64 b3] 58 (0, 0))) := ⟨by rw [hW1]; exact heap_alloc_new w _⟩
  have HW1 := Aside0.mk hW1
  clear h5 h6 h1 h2 h3 hb hbs hW1
  go_enter Try.func90, Try.ntmps90
  go_wp2_with fail
  rw [← HW1.out]
  go_loopw [3, 12] (fun v i wr => ∃ (k n c : Nat) (A : Option Addr), i = .int .i64 k ∧ k ≤ boxes.length ∧ v = .slice A n c ∧ Aside0 (n = (listL boxes (b0, b1, b2, b3) k).length ∧ wr.ownsRow (w.heap.size + 1) 3 1 (.slice A n c) n (nums .i64 (listL boxes (b0, b1, b2, b3) k)) ∧ Below (w.heap.size + 1) W1 wr)) (fun _ i _ => boxes.length - (intOf i).toNat)
  case atStart =>
    exact ⟨0, 0, 0, none, rfl, Nat.zero_le _, rfl, ⟨rfl, World.ownsRow_nil _ _ _ _, Below.refl _ _⟩⟩
  case round =>
    obtain ⟨k, n, c, A, rfl, hk, rfl, HD⟩ := hrel
    by_cases hlt : (k : Int) < (boxes.length : Int)
    · have hkl : k < boxes.length := by omega
      obtain ⟨rg, hRA, hrg, hrc⟩ := HH6.out (fun e => by rw [e] at hkl; simp at hkl)
      obtain ⟨c1, c2, c3, c4⟩ := hrc k hkl
      obtain ⟨⟨d0, d1, d2, d3⟩, hd⟩ : ∃ d, boxes[k] = d := ⟨_, rfl⟩
      rw [hd] at c1 c2 c3 c4
      dsimp only at c1 c2 c3 c4
      have hbl : Below w.heap.size w wr := HB1.out.trans (HD.out.2.2.mono (by omega))
      have e1 := (hbl.cell (p := ⟨rg, k * 4, none⟩) hrg).trans c1
      have e2 := (hbl.cell (p := ⟨rg, k * 4 + 1, none⟩) hrg).trans c2
      have e3 := (hbl.cell (p := ⟨rg, k * 4 + 2, none⟩) hrg).trans c3
      have e4 := (hbl.cell (p := ⟨rg, k * 4 + 3, none⟩) hrg).trans c4
      have hpart : wr.heap[w.heap.size]? = some (.cells #[.pointer (some ⟨fb, 0, none⟩), .int .i64 b0, .int .i64 b1, .int .i64 b2, .int .i64 b3] 58 (0, 0)) := by rw [HD.out.2.2.block w.heap.size (by omega)]; exact HT.out
      have hD : Aside0 (boxes[k] = (d0, d1, d2, d3)) := ⟨hd⟩
      have HBL := Aside0.mk hbl
      have HPT := Aside0.mk hpart
      have HRG := Aside0.mk hrg
      subst hRA
      clear c1 c2 c3 c4 hrc hd hbl hpart hrg ca h4
      go_wp2_with fail
      obtain ⟨W2, hW2⟩ : ∃ W2 : World, W2 = wr.alloc (.cells #[.int .i64 d0, .int .i64 d1, .int .i64 d2, .int .i64 d3] 56) := ⟨_, rfl⟩
      rw [← hW2]
      have hpw : w.heap.size < wr.heap.size := (Array.getElem?_eq_some_iff.1 HPT.out).1
      have hs2 : W2.heap.size = wr.heap.size + 1 := by rw [hW2]; simp
      have hpt2 : W2.heap[w.heap.size]? = some (.cells #[.pointer (some ⟨fb, 0, none⟩), .int .i64 b0, .int .i64 b1, .int .i64 b2, .int .i64 b3] 58 (0, 0)) := by rw [hW2, Below.heap_alloc _ _ _ hpw]; exact HPT.out
      have hrt2 : W2.heap[wr.heap.size]? = some (.cells #[.int .i64 d0, .int .i64 d1, .int .i64 d2, .int .i64 d3] 56 (0, 0)) := by rw [hW2]; exact heap_alloc_new wr _
      have p1 : W2.cell? ⟨w.heap.size, 1, none⟩ = some (.int .i64 b0) := by rw [Lib.cell_of_heap hpt2]; rfl
      have p2 : W2.cell? ⟨w.heap.size, 2, none⟩ = some (.int .i64 b1) := by rw [Lib.cell_of_heap hpt2]; rfl
      have p3 : W2.cell? ⟨w.heap.size, 3, none⟩ = some (.int .i64 b2) := by rw [Lib.cell_of_heap hpt2]; rfl
      have p4 : W2.cell? ⟨w.heap.size, 4, none⟩ = some (.int .i64 b3) := by rw [Lib.cell_of_heap hpt2]; rfl
      have q1 : W2.cell? ⟨wr.heap.size, 0, none⟩ = some (.int .i64 d0) := by rw [Lib.cell_of_heap hrt2]; rfl
      have q2 : W2.cell? ⟨wr.heap.size, 1, none⟩ = some (.int .i64 d1) := by rw [Lib.cell_of_heap hrt2]; rfl
      have q3 : W2.cell? ⟨wr.heap.size, 2, none⟩ = some (.int .i64 d2) := by rw [Lib.cell_of_heap hrt2]; rfl
      have q4 : W2.cell? ⟨wr.heap.size, 3, none⟩ = some (.int .i64 d3) := by rw [Lib.cell_of_heap hrt2]; rfl
      have HL1 : Aside0 (w.heap.size < W2.heap.size) := ⟨by omega⟩
      have HL2 : Aside0 (wr.heap.size < W2.heap.size) := ⟨by omega⟩
      have HPW := Aside0.mk hpw
      have HS2 := Aside0.mk hs2
      have HW2 := Aside0.mk hW2
      have HDB : Aside0 (BoxIn (d0, d1, d2, d3)) := ⟨by rw [← hD.out]; exact HBS.out _ (List.getElem_mem hkl)⟩
      clear hpw hs2 hpt2 hrt2 hW2 e1 e2 e3 e4
      obtain ⟨⟨m0, m1, m2, m3⟩, hm⟩ : ∃ m, bothB (b0, b1, b2, b3) (d0, d1, d2, d3) = m := ⟨_, rfl⟩
      have HBOTH : Aside0 (∀ W, Calls Try.prog 168 #[boxV (b0, b1, b2, b3), boxV (d0, d1, d2, d3)] W fun e w' => e = .returned (boxV (m0, m1, m2, m3)) ∧ Below W.heap.size W w') := ⟨fun W => by have := both_any (b0, b1, b2, b3) (d0, d1, d2, d3) HBB.out HDB.out W; rwa [hm] at this⟩
      have HM := Aside0.mk hm
      clear hm
      have hcase : m0 ≠ b0 ∨ (b0 = m0 ∧ m1 ≠ b1) ∨ (b0 = m0 ∧ b1 = m1 ∧ m2 ≠ b2) ∨ (b0 = m0 ∧ b1 = m1 ∧ b2 = m2 ∧ m3 ≠ b3) ∨ (b0 = m0 ∧ b1 = m1 ∧ b2 = m2 ∧ b3 = m3) := by omega
      rcases hcase with n0 | ⟨rfl, n0⟩ | ⟨rfl, rfl, n0⟩ | ⟨rfl, rfl, rfl, n0⟩ | ⟨rfl, rfl, rfl, rfl⟩
      all_goals
       try have n1 := beq_eq_false_iff_ne.2 n0
       go_region_held3 (fun w' => (w'.cell? ⟨w.heap.size, 1, none⟩ = some (.int .i64 b0) ∧ w'.cell? ⟨w.heap.size, 2, none⟩ = some (.int .i64 b1) ∧ w'.cell? ⟨w.heap.size, 3, none⟩ = some (.int .i64 b2) ∧ w'.cell? ⟨w.heap.size, 4, none⟩ = some (.int .i64 b3)) ∧ w'.cell? ⟨wr.heap.size, 0, none⟩ = some (.int .i64 d0) ∧ w'.cell? ⟨wr.heap.size, 1, none⟩ = some (.int .i64 d1) ∧ w'.cell? ⟨wr.heap.size, 2, none⟩ = some (.int .i64 d2) ∧ w'.cell? ⟨wr.heap.size, 3, none⟩ = some (.int .i64 d3)) (first
         | exact ⟨⟨p1, p2, p3, p4⟩, q1, q2, q3, q4⟩
         | exact ⟨⟨p1x, p2x, p3x, p4x⟩, q1x, q2x, q3x, q4x⟩
         | (go_simp)) ((go_at_call 168; refine Calls.mono (HBOTH.out _) ?_; rintro e w3 ⟨rfl, hb3⟩; have HB3 := Aside0.mk hb3; have p1x := (hb3.cell (p := ⟨w.heap.size, 1, none⟩) HL1.out).trans p1; have p2x := (hb3.cell (p := ⟨w.heap.size, 2, none⟩) HL1.out).trans p2; have p3x := (hb3.cell (p := ⟨w.heap.size, 3, none⟩) HL1.out).trans p3; have p4x := (hb3.cell (p := ⟨w.heap.size, 4, none⟩) HL1.out).trans p4; have q1x := (hb3.cell (p := ⟨wr.heap.size, 0, none⟩) HL2.out).trans q1; have q2x := (hb3.cell (p := ⟨wr.heap.size, 1, none⟩) HL2.out).trans q2; have q3x := (hb3.cell (p := ⟨wr.heap.size, 2, none⟩) HL2.out).trans q3; have q4x := (hb3.cell (p := ⟨wr.heap.size, 3, none⟩) HL2.out).trans q4; clear hb3; unfold boxV; dsimp only))
      all_goals
        have hb3w : Below wr.heap.size wr w3 := by
          have h1 : Below wr.heap.size wr W2 := by rw [HW2.out]; exact (Below.refl _ _).alloc (Nat.le_refl _) _
          have h2 : Below W2.heap.size W2 w3 := ⟨HB3.out.os, HB3.out.tape, HB3.out.output, HB3.out.size, HB3.out.block⟩
          exact h1.trans (h2.mono (by have := HS2.out; omega))
        have HBW := Aside0.mk hb3w
        clear hb3w
      iterate 4
        · have hno := listL_no (b := (b0, b1, b2, b3)) hkl (by rw [hD.out, HM.out]; intro e; simp only [Prod.mk.injEq] at e; omega)
          have HNO := Aside0.mk hno
          clear hno
          go_wp2_with fail
          refine ⟨⟨k + 1, n, c, A, by push_cast; rfl, by omega, rfl, ⟨by rw [HNO.out]; exact HD.out.1, by rw [HNO.out]; exact pw_own_below HD.out.2.1 HBW.out, HD.out.2.2.trans (HBW.out.mono (by have := HPW.out; omega))⟩⟩, by simp [intOf]; omega⟩
      · have hyes := listL_yes (b := (b0, b1, b2, b3)) hkl (by rw [hD.out, HM.out])
        have HYES := Aside0.mk hyes
        clear hyes
        go_wp2_with (at_builtin; refine print_append_num (w0 := W1) (w.heap.size + 1) rfl (.tmp 24) (.tmp 26) 37 3 .i64 8 rfl Try.underlying37 (by kernel_rfl) (by omega) _ (listL boxes (b0, b1, b2, b3) k) (k : Int) rfl rfl ?k1 (HD.out.2.2.trans (HBW.out.mono (by have := HPW.out; omega))) ?k3 ?k2 ?_; (case k1 => rw [← HD.out.1]; exact pw_own_below HD.out.2.1 HBW.out); (case k3 => have := HPW.out; have := HBW.out.size; omega); (case k2 => have := listL_len boxes (b0, b1, b2, b3) k; omega); intro v1 w1 ho hB hg hat; have HO1 := Aside0.mk ho; have HB4 := Aside0.mk hB; clear ho hB hg hat)
        obtain ⟨A1, c1, rfl⟩ := own_slice HO1.out
        refine ⟨⟨k + 1, (listL boxes (b0, b1, b2, b3) k ++ [(k : Int)]).length, c1, A1, by push_cast; rfl, by omega, rfl, ⟨by rw [HYES.out], by rw [HYES.out]; exact HO1.out, HB4.out⟩⟩, by simp [intOf]; omega⟩
    · have hkl : k = boxes.length := by omega
      subst hkl
      go_wp2_with fail
      obtain ⟨ho1, ho2, ho3⟩ := HD.out
      subst ho1
      go_ret
      exact ⟨⟨A, c, rfl, own_weaken ho2 (by omega)⟩, HB1.out.trans (ho3.mono (by omega))⟩
end Go.Proofs.Ytdhnjecbdclmaaa
end
