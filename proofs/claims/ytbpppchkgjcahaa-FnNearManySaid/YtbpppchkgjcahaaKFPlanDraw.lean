/- The reference's drawn plans: l91Plan, l91Some, l91One. Conditions: the code's bytes are read. -/
import Derived.Test.YtbpppchkgjcahaaKFPlanCut
import Derived.Test.YtbpppchkgjcahaaKFL5x
namespace Go.Proofs.Ytbpppchkgjcahaa
open Go.RowKit Go.Shelf Go.Proofs.YtbpppchkgjcahaaW.PrintWords Go.Proofs.YtbpppchkgjcahaaW.PrintMore
set_option linter.unusedVariables false
set_option linter.unusedSimpArgs false
def emptyT (n m : Nat) : List ByteArray := List.replicate n ⟨(List.replicate m 97).toArray⟩
theorem empty_dec : ∀ n m : Fin 5, L5.spec_l91Empty.f 60 ((n.val + 1 : Nat) : Int) ((m.val + 1 : Nat) : Int) = some (emptyT (n.val + 1) (m.val + 1)) ∧ planG (emptyT (n.val + 1) (m.val + 1)) = true := by decide +kernel
theorem empty_f {n m : Nat} (hn : 1 ≤ n ∧ n ≤ 5) (hm : 1 ≤ m ∧ m ≤ 5) : L5.spec_l91Empty.f 60 (n : Int) (m : Int) = some (emptyT n m) ∧ planG (emptyT n m) = true := by
  have := empty_dec ⟨n - 1, by omega⟩ ⟨m - 1, by omega⟩
  dsimp only at this
  rwa [show n - 1 + 1 = n by omega, show m - 1 + 1 = m by omega] at this
def three3 : List ByteArray := [⟨#[97, 97, 98]⟩, ⟨#[99, 100, 98]⟩, ⟨#[99, 101, 101]⟩]
def four4 : List ByteArray := [⟨#[97, 97, 97, 98]⟩, ⟨#[99, 100, 100, 98]⟩, ⟨#[99, 100, 100, 98]⟩, ⟨#[99, 101, 101, 101]⟩]
theorem three3_plan : planG three3 = true := by decide +kernel
theorem four4_plan : planG four4 = true := by decide +kernel
theorem lit_at {b : Nat} {W : World} (hb : b < W.heap.size) (l : List ByteArray) (hl : l.length ≤ 100) : PlanAt b (W.alloc (.cells (l.map Value.string).toArray 9)) (some ⟨W.heap.size, 0, none⟩) l.length l :=
  PlanAt.own (own_lit_of (enc := Value.string) W W.heap.size 9 l (Nat.le_refl _) (by omega)) rfl hb
set_option maxRecDepth 100000 in
set_option maxHeartbeats 8000000 in
theorem l91Plan_any (b : Nat) (q0 : Int) (w0 w : World) (h : Reader w0 w b q0) (hq : 0 ≤ q0 ∧ q0 ≤ 1000 - 100) (n m : Nat) (hn : 1 ≤ n ∧ n ≤ 5) (hm : 1 ≤ m ∧ m ≤ 5) :
    Calls Try.prog 180 #[.pointer (some ⟨b, 0, none⟩), .int .i64 n, .int .i64 m] w fun e w' => DrewP n w0 b (q0 + 50) w' e := by
  have H := Aside0.mk h
  have hq1 := hq.1
  have hq2 := hq.2
  obtain ⟨hef, hep⟩ := empty_f hn hm
  have HEM := Aside0.mk (fun W => L5.spec_l91Empty.calls 60 n m _ W hef)
  have HEP := Aside0.mk hep
  have HEL : Aside0 ((emptyT n m).length = n) := ⟨by unfold emptyT; rw [List.length_replicate]⟩
  have hn1 := hn.1
  have hn5 := hn.2
  have hm1 := hm.1
  have hm5 := hm.2
  clear h hq hef hep hn hm
  by_cases a3 : n = 3 ∧ m = 3
  · obtain ⟨rfl, rfl⟩ := a3
    clear hn1 hn5 hm1 hm5
    go_enter Try.func180, Try.ntmps180
    go_wp2_with fail
    refine (pick_rd b q0 2 w0 w H.out ⟨by omega, by omega⟩ ⟨by omega, by omega⟩).mono ?_
    rintro e w1 ⟨k1, rfl, hk1, H1, _, _, _⟩
    by_cases hk0 : k1 = 0
    · subst hk0
      go_wp2_with fail
      have HPL : Aside0 (PlanAt b (w1.alloc (.cells #[.string ⟨#[97, 97, 98]⟩, .string ⟨#[99, 100, 98]⟩, .string ⟨#[99, 101, 101]⟩] 9)) (some ⟨w1.heap.size, 0, none⟩) 3 three3) := ⟨lit_at (Reader.lt H1.out) three3 (by decide)⟩
      refine (pick_rd b (q0 + 1) 2 w0 _ (H1.out.alloc _) ⟨by omega, by omega⟩ ⟨by omega, by omega⟩).mono ?_
      rintro e w9 ⟨k9, rfl, hk9, H9, _, H9b, H9c⟩
      have HP9 := Aside0.mk (HPL.out.move (fun j h1 _ => H9b.out j h1) (by rw [H9c.out]; exact Nat.le_refl _))
      clear H9b H9c HPL
      have HCU : Aside0 (Calls Try.prog 214 #[.pointer (some ⟨b, 0, none⟩), .slice (some ⟨w1.heap.size, 0, none⟩) 3 3, .int .i64 k9] w9 fun e w' => DrewP 3 w0 b (q0 + 1 + 1 + 40) w' e) := ⟨l91Cut_any b (q0 + 1 + 1) w0 w9 H9.out ⟨by omega, by omega⟩ (some ⟨w1.heap.size, 0, none⟩) 3 three3 HP9.out three3_plan k9 (by omega)⟩
      go_wp2_with fail
      refine HCU.out.mono ?_
      rintro e w10 ⟨q10, A10, c10, qn, rfl, hl, hn0, hn1, HD⟩
      go_wp2_with fail
      go_ret
      exact ⟨q10, A10, c10, qn, by rw [hl]; rfl, hl, hn0, by omega, HD⟩
    · have hkz : ((k1 : Int) == 0) = false := by rw [beq_eq_false_iff_ne]; omega
      go_wp2_with fail
      refine (HEM.out _).mono ?_
      rintro e w8 ⟨v8, rfl, hR8, hb8⟩
      have HR8 := Aside0.mk (H1.out.on hb8)
      have HO8 := Aside0.mk (Kd.own_of_R (enc := Value.string) (h1 := fun _ => rfl) hR8)
      obtain ⟨A8, c8, rfl⟩ := own_slice HO8.out
      have HP8 : Aside0 (PlanAt b w8 A8 c8 (emptyT 3 3)) := ⟨PlanAt.own HO8.out rfl (Reader.lt H1.out)⟩
      clear hb8 hR8 HO8
      go_wp2_with fail
      refine (pick_rd b (q0 + 1) 9 w0 w8 HR8.out ⟨by omega, by omega⟩ ⟨by omega, by omega⟩).mono ?_
      rintro e w9 ⟨k9, rfl, hk9, H9, _, H9b, H9c⟩
      have HP9 := Aside0.mk (HP8.out.move (fun j h1 _ => H9b.out j h1) (by rw [H9c.out]; exact Nat.le_refl _))
      clear H9b H9c HP8 HR8
      go_wp2_with fail
      refine (l91Cut_any b ((q0 + 1) + 1) w0 w9 H9.out ⟨by omega, by omega⟩ A8 c8 (emptyT 3 3) HP9.out HEP.out k9 (by omega)).mono ?_
      rintro e w10 ⟨q10, A10, c10, qn, rfl, hl, hn0, hn1, HD⟩
      go_wp2_with fail
      go_ret
      exact ⟨q10, A10, c10, qn, by rw [hl, HEL.out]; rfl, hl.trans HEL.out, hn0, by omega, HD⟩
  · by_cases a4 : n = 4 ∧ m = 4
    · obtain ⟨rfl, rfl⟩ := a4
      clear hn1 hn5 hm1 hm5 a3
      go_enter Try.func180, Try.ntmps180
      go_wp2_with fail
      refine (pick_rd b q0 2 w0 w H.out ⟨by omega, by omega⟩ ⟨by omega, by omega⟩).mono ?_
      rintro e w1 ⟨k1, rfl, hk1, H1, _, _, _⟩
      by_cases hk0 : k1 = 0
      · subst hk0
        go_wp2_with fail
        have HPL : Aside0 (PlanAt b (w1.alloc (.cells #[.string ⟨#[97, 97, 97, 98]⟩, .string ⟨#[99, 100, 100, 98]⟩, .string ⟨#[99, 100, 100, 98]⟩, .string ⟨#[99, 101, 101, 101]⟩] 9)) (some ⟨w1.heap.size, 0, none⟩) 4 four4) := ⟨lit_at (Reader.lt H1.out) four4 (by decide)⟩
        refine (pick_rd b (q0 + 1) 4 w0 _ (H1.out.alloc _) ⟨by omega, by omega⟩ ⟨by omega, by omega⟩).mono ?_
        rintro e w9 ⟨k9, rfl, hk9, H9, _, H9b, H9c⟩
        have HP9 := Aside0.mk (HPL.out.move (fun j h1 _ => H9b.out j h1) (by rw [H9c.out]; exact Nat.le_refl _))
        clear H9b H9c HPL
        have HCU : Aside0 (Calls Try.prog 214 #[.pointer (some ⟨b, 0, none⟩), .slice (some ⟨w1.heap.size, 0, none⟩) 4 4, .int .i64 k9] w9 fun e w' => DrewP 4 w0 b (q0 + 1 + 1 + 40) w' e) := ⟨l91Cut_any b (q0 + 1 + 1) w0 w9 H9.out ⟨by omega, by omega⟩ (some ⟨w1.heap.size, 0, none⟩) 4 four4 HP9.out four4_plan k9 (by omega)⟩
        go_wp2_with fail
        refine HCU.out.mono ?_
        rintro e w10 ⟨q10, A10, c10, qn, rfl, hl, hn0, hn1, HD⟩
        go_wp2_with fail
        go_ret
        exact ⟨q10, A10, c10, qn, by rw [hl]; rfl, hl, hn0, by omega, HD⟩
      · have hkz : ((k1 : Int) == 0) = false := by rw [beq_eq_false_iff_ne]; omega
        go_wp2_with fail
        refine (HEM.out _).mono ?_
        rintro e w8 ⟨v8, rfl, hR8, hb8⟩
        have HR8 := Aside0.mk (H1.out.on hb8)
        have HO8 := Aside0.mk (Kd.own_of_R (enc := Value.string) (h1 := fun _ => rfl) hR8)
        obtain ⟨A8, c8, rfl⟩ := own_slice HO8.out
        have HP8 : Aside0 (PlanAt b w8 A8 c8 (emptyT 4 4)) := ⟨PlanAt.own HO8.out rfl (Reader.lt H1.out)⟩
        clear hb8 hR8 HO8
        go_wp2_with fail
        refine (pick_rd b (q0 + 1) 9 w0 w8 HR8.out ⟨by omega, by omega⟩ ⟨by omega, by omega⟩).mono ?_
        rintro e w9 ⟨k9, rfl, hk9, H9, _, H9b, H9c⟩
        have HP9 := Aside0.mk (HP8.out.move (fun j h1 _ => H9b.out j h1) (by rw [H9c.out]; exact Nat.le_refl _))
        clear H9b H9c HP8 HR8
        go_wp2_with fail
        refine (l91Cut_any b ((q0 + 1) + 1) w0 w9 H9.out ⟨by omega, by omega⟩ A8 c8 (emptyT 4 4) HP9.out HEP.out k9 (by omega)).mono ?_
        rintro e w10 ⟨q10, A10, c10, qn, rfl, hl, hn0, hn1, HD⟩
        go_wp2_with fail
        go_ret
        exact ⟨q10, A10, c10, qn, by rw [hl, HEL.out]; rfl, hl.trans HEL.out, hn0, by omega, HD⟩
    · by_cases n3 : n = 3
      · subst n3
        have z1 : ((m : Int) == 3) = false := by rw [beq_eq_false_iff_ne]; omega
        clear a3 a4 hn1 hn5
        go_enter Try.func180, Try.ntmps180
        go_wp2_with fail
        refine (HEM.out _).mono ?_
        rintro e w8 ⟨v8, rfl, hR8, hb8⟩
        have HR8 := Aside0.mk (H.out.on hb8)
        have HO8 := Aside0.mk (Kd.own_of_R (enc := Value.string) (h1 := fun _ => rfl) hR8)
        obtain ⟨A8, c8, rfl⟩ := own_slice HO8.out
        have HP8 : Aside0 (PlanAt b w8 A8 c8 (emptyT 3 m)) := ⟨PlanAt.own HO8.out rfl (Reader.lt H.out)⟩
        clear hb8 hR8 HO8
        go_wp2_with fail
        refine (pick_rd b q0 9 w0 w8 HR8.out ⟨by omega, by omega⟩ ⟨by omega, by omega⟩).mono ?_
        rintro e w9 ⟨k9, rfl, hk9, H9, _, H9b, H9c⟩
        have HP9 := Aside0.mk (HP8.out.move (fun j h1 _ => H9b.out j h1) (by rw [H9c.out]; exact Nat.le_refl _))
        clear H9b H9c HP8 HR8
        go_wp2_with fail
        refine (l91Cut_any b (q0 + 1) w0 w9 H9.out ⟨by omega, by omega⟩ A8 c8 (emptyT 3 m) HP9.out HEP.out k9 (by omega)).mono ?_
        rintro e w10 ⟨q10, A10, c10, qn, rfl, hl, hn0, hn1, HD⟩
        go_wp2_with fail
        go_ret
        exact ⟨q10, A10, c10, qn, by rw [hl, HEL.out]; rfl, hl.trans HEL.out, hn0, by omega, HD⟩
      · by_cases n4 : n = 4
        · subst n4
          have z1 : ((m : Int) == 4) = false := by rw [beq_eq_false_iff_ne]; omega
          clear a3 a4 hn1 hn5 n3
          go_enter Try.func180, Try.ntmps180
          go_wp2_with fail
          refine (HEM.out _).mono ?_
          rintro e w8 ⟨v8, rfl, hR8, hb8⟩
          have HR8 := Aside0.mk (H.out.on hb8)
          have HO8 := Aside0.mk (Kd.own_of_R (enc := Value.string) (h1 := fun _ => rfl) hR8)
          obtain ⟨A8, c8, rfl⟩ := own_slice HO8.out
          have HP8 : Aside0 (PlanAt b w8 A8 c8 (emptyT 4 m)) := ⟨PlanAt.own HO8.out rfl (Reader.lt H.out)⟩
          clear hb8 hR8 HO8
          go_wp2_with fail
          refine (pick_rd b q0 9 w0 w8 HR8.out ⟨by omega, by omega⟩ ⟨by omega, by omega⟩).mono ?_
          rintro e w9 ⟨k9, rfl, hk9, H9, _, H9b, H9c⟩
          have HP9 := Aside0.mk (HP8.out.move (fun j h1 _ => H9b.out j h1) (by rw [H9c.out]; exact Nat.le_refl _))
          clear H9b H9c HP8 HR8
          go_wp2_with fail
          refine (l91Cut_any b (q0 + 1) w0 w9 H9.out ⟨by omega, by omega⟩ A8 c8 (emptyT 4 m) HP9.out HEP.out k9 (by omega)).mono ?_
          rintro e w10 ⟨q10, A10, c10, qn, rfl, hl, hn0, hn1, HD⟩
          go_wp2_with fail
          go_ret
          exact ⟨q10, A10, c10, qn, by rw [hl, HEL.out]; rfl, hl.trans HEL.out, hn0, by omega, HD⟩
        · have z1 : ((n : Int) == 3) = false := by rw [beq_eq_false_iff_ne]; omega
          have z2 : ((n : Int) == 4) = false := by rw [beq_eq_false_iff_ne]; omega
          clear a3 a4 n3 n4
          go_enter Try.func180, Try.ntmps180
          go_wp2_with fail
          refine (HEM.out _).mono ?_
          rintro e w8 ⟨v8, rfl, hR8, hb8⟩
          have HR8 := Aside0.mk (H.out.on hb8)
          have HO8 := Aside0.mk (Kd.own_of_R (enc := Value.string) (h1 := fun _ => rfl) hR8)
          obtain ⟨A8, c8, rfl⟩ := own_slice HO8.out
          have HP8 : Aside0 (PlanAt b w8 A8 c8 (emptyT n m)) := ⟨PlanAt.own HO8.out rfl (Reader.lt H.out)⟩
          clear hb8 hR8 HO8
          go_wp2_with fail
          refine (pick_rd b q0 9 w0 w8 HR8.out ⟨by omega, by omega⟩ ⟨by omega, by omega⟩).mono ?_
          rintro e w9 ⟨k9, rfl, hk9, H9, _, H9b, H9c⟩
          have HP9 := Aside0.mk (HP8.out.move (fun j h1 _ => H9b.out j h1) (by rw [H9c.out]; exact Nat.le_refl _))
          clear H9b H9c HP8 HR8
          go_wp2_with fail
          refine (l91Cut_any b (q0 + 1) w0 w9 H9.out ⟨by omega, by omega⟩ A8 c8 (emptyT n m) HP9.out HEP.out k9 (by omega)).mono ?_
          rintro e w10 ⟨q10, A10, c10, qn, rfl, hl, hn0, hn1, HD⟩
          go_wp2_with fail
          go_ret
          exact ⟨q10, A10, c10, qn, by rw [hl, HEL.out]; rfl, hl.trans HEL.out, hn0, by omega, HD⟩
def DrewT (N : Nat) (w0 : World) (b : Nat) (q1 : Int) (w' : World) (e : Ending) : Prop := ∃ (q : List ByteArray) (A' : Option Addr) (c' : Nat) (qn : Int), e = .returned (.slice A' q.length c') ∧ 1 ≤ q.length ∧ q.length ≤ N ∧ 0 ≤ qn ∧ qn ≤ q1 ∧ Aside0 ((∀ s ∈ q, s.size ≤ 10) ∧ PlanAt b w' A' c' q ∧ Reader w0 w' b qn)
theorem plan_sizes {p : List ByteArray} (h : planG p = true) : ∀ s ∈ p, 1 ≤ s.size ∧ s.size ≤ 6 := by
  intro s hs
  obtain ⟨i, hi, rfl⟩ := List.getElem_of_mem hs
  have t := planTG h
  have := t.size i hi
  rw [rdOf_get hi] at this
  rw [this]
  exact t.wide
theorem set_sizes {q : List ByteArray} (h : ∀ s ∈ q, 1 ≤ s.size ∧ s.size ≤ 6) (i : Nat) (x : ByteArray) (hx : x.size ≤ 10) : ∀ s ∈ q.set i x, s.size ≤ 10 := by
  intro s hs
  rcases List.mem_or_eq_of_mem_set hs with h1 | h1
  · have := h s h1; omega
  · rw [h1]; exact hx
set_option maxRecDepth 100000 in
set_option maxHeartbeats 8000000 in
theorem l91Some_any (b : Nat) (q0 : Int) (w0 w : World) (h : Reader w0 w b q0) (hq : 0 ≤ q0 ∧ q0 ≤ 1000 - 200) (rows cols : Nat) (hr : 1 ≤ rows ∧ rows ≤ 5) (hcl : 1 ≤ cols ∧ cols ≤ 5) :
    Calls Try.prog 126 #[.pointer (some ⟨b, 0, none⟩), .int .i64 rows, .int .i64 cols] w fun e w' => DrewT rows w0 b (q0 + 60) w' e := by
  have H := Aside0.mk h
  have hq1 := hq.1
  have hq2 := hq.2
  have hr1 := hr.1
  have hr5 := hr.2
  have hc1 := hcl.1
  have hc5 := hcl.2
  clear h hq hr hcl
  go_enter Try.func126, Try.ntmps126
  go_wp2_with fail
  refine (pick_rd b q0 rows w0 w H.out ⟨by omega, by omega⟩ ⟨by omega, by omega⟩).mono ?_
  rintro e w1 ⟨k1, rfl, hk1, H1, _, _, _⟩
  go_wp2_with fail
  refine (pick_rd b (q0 + 1) cols w0 w1 H1.out ⟨by omega, by omega⟩ ⟨by omega, by omega⟩).mono ?_
  rintro e w2 ⟨k2, rfl, hk2, H2, _, _, _⟩
  have HPN : Aside0 (∀ N M : Int, N = ((k1 + 1 : Nat) : Int) → M = ((k2 + 1 : Nat) : Int) → Calls Try.prog 180 #[.pointer (some ⟨b, 0, none⟩), .int .i64 N, .int .i64 M] w2 fun e w' => DrewP (k1 + 1) w0 b (q0 + 1 + 1 + 50) w' e) := ⟨fun N M e1 e2 => by
    subst e1 e2
    exact l91Plan_any b (q0 + 1 + 1) w0 w2 H2.out ⟨by omega, by omega⟩ (k1 + 1) (k2 + 1) ⟨by omega, by omega⟩ ⟨by omega, by omega⟩⟩
  go_wp2_with fail
  refine (HPN.out _ _ (by omega) (by omega)).mono ?_
  rintro e w3 ⟨p, A3, c3, q3, rfl, hl3, h30, h31, HD3⟩
  obtain ⟨n, hn⟩ : ∃ n, p.length = n := ⟨_, rfl⟩
  have HN := Aside0.mk hn
  have HNK : Aside0 (n = k1 + 1) := ⟨by omega⟩
  have hn1 : 1 ≤ n := by omega
  have hn5 : n ≤ rows := by omega
  rw [hn]
  have HR3 := Aside0.mk HD3.out.2.2
  obtain ⟨I, hI⟩ : ∃ I : Int, 1 + (k1 : Int) = I := ⟨_, rfl⟩
  have hI0 : 1 ≤ I := by omega
  have hI1 : I - 1 < (n : Int) := by omega
  have HIK : Aside0 (I.toNat - 1 = k1) := ⟨by omega⟩
  rw [hI]
  clear hl3 hn HPN hI
  go_wp2_with fail
  refine (pick_rd b q3 50 w0 w3 HR3.out ⟨by omega, by omega⟩ ⟨by omega, by omega⟩).mono ?_
  rintro e w4 ⟨k4, rfl, hk4, H4, _, H4b, H4c⟩
  have HP4 := Aside0.mk (HD3.out.2.1.move (fun j h1 _ => H4b.out j h1) (by rw [H4c.out]; exact Nat.le_refl _))
  have HSZ := Aside0.mk (plan_sizes HD3.out.1)
  have HRD := Aside0.mk (Kd.reads_of_C (enc := Value.string) (d := ByteArray.empty) (h1 := fun _ => rfl) HP4.out.2.1)
  rw [HN.out] at HRD
  have HO0 : Aside0 ((w4.alloc (.cells #[] 9)).ownsRow w4.heap.size 9 1 (.slice (some ⟨w4.heap.size, 0, none⟩) 0 0) 0 (encs Value.string [])) := ⟨own_lit_of (enc := Value.string) w4 w4.heap.size 9 [] (Nat.le_refl _) (by simp)⟩
  have HB0 : Aside0 (Below w4.heap.size w4 (w4.alloc (.cells #[] 9))) := ⟨(Below.refl _ _).alloc (Nat.le_refl _) _⟩
  have HCP : Aside0 (n ≤ c3) := ⟨by have := HP4.out.1; rw [HN.out] at this; exact this⟩
  have HLT : Aside0 (b < w4.heap.size) := ⟨Reader.lt H4.out⟩
  clear H4b H4c HR3 H1 H2 H
  by_cases hk0 : k4 = 0
  · subst hk0
    go_wp2_with (at_builtin; refine print_append_row_of (w0 := w4) (enc := Value.string) (d := ByteArray.empty) w4.heap.size rfl (.tmp 24) (.tmp 25) 22 9 (.string ⟨#[]⟩) 16 rfl Try.underlying22 (by kernel_rfl) rfl (by omega) (fun _ => rfl) _ [] p A3 n c3 rfl rfl ?k1 ?k4 ?k3 ?k2 ?k5 ?_; (case k1 => exact HO0.out); (case k4 => exact HRD.out.below HB0.out); (case k3 => exact HB0.out); (case k2 => exact HB0.out.size); (case k5 => simp; omega); intro v5 w5 ho hB hg hat; have HO5 := Aside0.mk ho; have HB5 := Aside0.mk hB; clear ho hB hg hat)
    obtain ⟨g, c5, hv5, hg1, hg2⟩ := HO5.out.form (by have := HN.out; simp; omega)
    subst hv5
    have HO6 : Aside0 (w5.ownsRow w4.heap.size 9 1 (.slice (some ⟨g, 0, none⟩) n c5) n (encs Value.string p)) := ⟨by have := HO5.out; simpa [HN.out] using this⟩
    have hpl : ([] ++ p : List ByteArray).length = n := by simp [HN.out]
    rw [hpl]
    clear HO5 hpl
    obtain ⟨crow, frow⟩ := own_at_of (d := ByteArray.empty) HO6.out (k1 : Int) (by omega) (by have := HNK.out; omega)
    rw [Int.toNat_natCast, ← HIK.out] at crow frow
    obtain ⟨s, hs⟩ : ∃ s, rdOf ByteArray.empty p (k1 : Int) = s := ⟨_, rfl⟩
    try rw [HIK.out] at crow
    rw [hs] at crow
    try rw [← HIK.out] at crow
    have hss : s.size ≤ 6 := (by have h9 : k1 < p.length := (by have := HN.out; have := HNK.out; omega); have h8 := HSZ.out _ (List.getElem_mem h9); rw [← hs]; unfold rdOf; rw [Int.toNat_natCast, List.getD_eq_getElem?_getD, List.getElem?_eq_getElem h9]; exact h8.2)
    go_wp2_with fail
    go_simp
    go_wp2_with fail
    go_ret
    have hst := (own_store_of (enc := Value.string) HO6.out (k1 : Int) (s ++ ⟨#[97]⟩)).1
    rw [Int.toNat_natCast] at hst
    rw [HIK.out]
    have HPF := PlanAt.own hst (by rw [List.length_set]; exact HN.out) HLT.out
    have hbl := HB5.out.setCell (p := ⟨g, k1, none⟩) hg1 (.string (s ++ ⟨#[97]⟩))
    refine ⟨p.set k1 (s ++ ⟨#[97]⟩), some ⟨g, 0, none⟩, c5, q3 + 1, by rw [List.length_set, HN.out]; rfl, by rw [List.length_set]; have := HN.out; omega, by rw [List.length_set]; have := HN.out; omega, by omega, by omega, ⟨set_sizes HSZ.out _ _ (by rw [ByteArray.size_append]; show s.size + 1 ≤ 10; omega), HPF, H4.out.on hbl⟩⟩
  · have hkz : ((k4 : Int) == 0) = false := by rw [beq_eq_false_iff_ne]; omega
    by_cases hk1 : k4 = 1
    · subst hk1
      go_wp2_with (at_builtin; refine print_append_row_of (w0 := w4) (enc := Value.string) (d := ByteArray.empty) w4.heap.size rfl (.tmp 39) (.tmp 40) 22 9 (.string ⟨#[]⟩) 16 rfl Try.underlying22 (by kernel_rfl) rfl (by omega) (fun _ => rfl) _ [] p A3 n c3 rfl rfl ?k1 ?k4 ?k3 ?k2 ?k5 ?_; (case k1 => exact HO0.out); (case k4 => exact HRD.out.below HB0.out); (case k3 => exact HB0.out); (case k2 => exact HB0.out.size); (case k5 => simp; omega); intro v5 w5 ho hB hg hat; have HO5 := Aside0.mk ho; have HB5 := Aside0.mk hB; clear ho hB hg hat)
      obtain ⟨g, c5, hv5, hg1, hg2⟩ := HO5.out.form (by have := HN.out; simp; omega)
      subst hv5
      have HO6 : Aside0 (w5.ownsRow w4.heap.size 9 1 (.slice (some ⟨g, 0, none⟩) n c5) n (encs Value.string p)) := ⟨by have := HO5.out; simpa [HN.out] using this⟩
      have hpl : ([] ++ p : List ByteArray).length = n := by simp [HN.out]
      rw [hpl]
      clear HO5 hpl
      have hn0 : 0 < n := by omega
      have hn00 : (0 : Int) < (n : Int) := by omega
      obtain ⟨crow, frow⟩ := own_at_of (d := ByteArray.empty) HO6.out 0 (by omega) (by omega)
      rw [show (0 : Int).toNat = 0 from rfl] at crow frow
      obtain ⟨s, hs⟩ : ∃ s, rdOf ByteArray.empty p 0 = s := ⟨_, rfl⟩
      rw [hs] at crow
      have hss : 1 ≤ s.size ∧ s.size ≤ 6 := (by have h9 : (0 : Int).toNat < p.length := (by have := HN.out; omega); have h8 := HSZ.out _ (List.getElem_mem h9); rw [← hs]; unfold rdOf; rw [List.getD_eq_getElem?_getD, List.getElem?_eq_getElem h9]; exact h8)
      have hs1 := hss.1
      have hs6 := hss.2
      go_wp2_with fail
      go_simp
      go_wp2_with fail
      go_ret
      have hst := (own_store_of (enc := Value.string) HO6.out 0 (⟨#[122]⟩ ++ s.extract 1 s.size)).1
      have HPF := PlanAt.own hst (by rw [List.length_set]; exact HN.out) HLT.out
      have hbl := HB5.out.setCell (p := ⟨g, (0 : Int).toNat, none⟩) hg1 (.string (⟨#[122]⟩ ++ s.extract 1 s.size))
      refine ⟨p.set (0 : Int).toNat (⟨#[122]⟩ ++ s.extract 1 s.size), some ⟨g, 0, none⟩, c5, q3 + 1, by rw [List.length_set, HN.out]; rfl, by rw [List.length_set]; have := HN.out; omega, by rw [List.length_set]; have := HN.out; omega, by omega, by omega, ⟨set_sizes HSZ.out _ _ (by rw [ByteArray.size_append, ByteArray.size_extract]; show 1 + _ ≤ 10; omega), HPF, H4.out.on hbl⟩⟩
    · have hkz1 : ((k4 : Int) == 1) = false := by rw [beq_eq_false_iff_ne]; omega
      go_wp2_with fail
      go_ret
      exact ⟨p, A3, c3, q3 + 1, by rw [HN.out]; rfl, by have := HN.out; omega, by have := HN.out; omega, by omega, by omega, ⟨fun s hs => by have := HSZ.out s hs; omega, HP4.out, H4.out⟩⟩
def DrewOne (w w' : World) (e : Ending) : Prop := ∃ (q : List ByteArray) (A' : Option Addr) (c' : Nat), e = .returned (.slice A' q.length c') ∧ Aside0 (1 ≤ q.length ∧ SmallP q ∧ q.length ≤ c' ∧ Kd.C Kd.string w' A' q.length q ∧ Below w.heap.size w w')
set_option maxRecDepth 100000 in
set_option maxHeartbeats 4000000 in
theorem l91One_any (A : Option Addr) (n cap : Nat) (bs : List Int) (w : World) (h : Code0 w A n cap bs) :
    Calls Try.prog 79 #[.slice A n cap] w fun e w' => DrewOne w w' e := by
  have H := Aside0.mk h
  clear h
  go_enter Try.func79, Try.ntmps79
  go_wp2_with fail
  refine (open_rd A n cap bs _ H.out).mono ?_
  rintro e w1 ⟨rfl, h1, h2⟩
  have H1 := Aside0.mk h1
  clear h1 h2
  have HS := Aside0.mk (l91Some_any w.heap.size 0 w w1 H1.out ⟨by omega, by omega⟩ 5 5 ⟨by omega, by omega⟩ ⟨by omega, by omega⟩)
  go_wp2_with fail
  refine HS.out.mono ?_
  rintro e w2 ⟨q, A2, c2, qn, rfl, l1, l2, _, _, HD⟩
  go_wp2_with fail
  go_ret
  exact ⟨q, A2, c2, rfl, ⟨l1, ⟨by omega, fun s hs => by have := HD.out.1 s hs; omega⟩, HD.out.2.1.1, HD.out.2.1.2.1, Reader.bel HD.out.2.2⟩⟩
end Go.Proofs.Ytbpppchkgjcahaa
