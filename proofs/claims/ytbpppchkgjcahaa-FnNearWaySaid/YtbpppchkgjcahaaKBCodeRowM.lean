/- Texts of this claim's, joined by a program: BCodeRow, BRoomsAny, BDrawNear, BExCut, BExTrans. -/
import Derived.Test.YtbpppchkgjcahaaKBPlanDraw
import Derived.Test.YtbpppchkgjcahaaKBSpecGridM
import Derived.Test.YtbpppchkgjcahaaKBExPlanM
import Derived.Test.YtbpppchkgjcahaaKBFloorRM
section
namespace Go.Proofs.Ytbpppchkgjcahaa
open Go.RowKit Go.Shelf Go.Proofs.YtbpppchkgjcahaaW.PrintWords Go.Proofs.YtbpppchkgjcahaaW.PrintMore
set_option linter.unusedVariables false
def CodeRow (w : World) (a0 : Option Addr) (len0 cap0 : Nat) (z0 : List Int) : Prop := (a0 = none ∧ len0 = 0 ∧ cap0 = 0 ∧ z0 = []) ∨ ∃ x, a0 = some x ∧ len0 ≤ cap0 ∧ cap0 ≤ maxLen ∧ z0.length = cap0 ∧ (∀ i, i < z0.length → w.cell? (x.add i) = some (.int .u8 (z0.getD i 0))) ∧ ∀ n ∈ z0, (Lit.int .u8 n).wf = true
theorem CodeRow.code {w : World} {a0 : Option Addr} {len0 cap0 : Nat} {z0 : List Int} (h : CodeRow w a0 len0 cap0 z0) : ∃ bs, Code0 w a0 len0 cap0 bs := by
  obtain ⟨l0, rfl, hr0, hm0, hw0, hc0⟩ := ReadsInt.ofRowC h
  refine ⟨l0, hc0, Kd.C_of_reads (d := (0 : Int)) (h1 := fun _ => rfl) hr0, fun x hx => ?_⟩
  have := hw0 x hx
  unfold Lit.wf at this
  rw [Bool.and_eq_true, decide_eq_true_eq, decide_eq_true_eq] at this
  exact this
end Go.Proofs.Ytbpppchkgjcahaa
end
section
namespace Go.Proofs.Ytbpppchkgjcahaa
open Go.RowKit Go.Shelf Go.Proofs.YtbpppchkgjcahaaW.PrintWords Go.Proofs.YtbpppchkgjcahaaW.PrintMore L2
set_option linter.unusedVariables false
set_option linter.unusedSimpArgs false
def SmallN (n : Int) : Prop := 0 ≤ n ∧ n ≤ 159
theorem roomsAny_row (p : List ByteArray) (hp : SmallP p) (i : Nat) (hi : i < p.length) (hN : ∀ n, SmallN n → ∃ v k, SmallN v ∧ spec_l1Rooms.l0 k p n ((i + 1 : Nat) : Int) = some v) :
    ∀ d j, j + d = p[i].size → ∀ n, SmallN n → ∃ v k, SmallN v ∧ spec_l1Rooms.l1 k p n (i : Int) (j : Int) = some v := by
  have hs := hp.2 p[i] (List.getElem_mem hi)
  have hl := hp.1
  have c1 : (i : Int) < (p.length : Int) := by omega
  have c2 : (0 : Int) ≤ (i : Int) := by omega
  intro d
  induction d with
  | zero =>
    intro j hj n hn
    obtain ⟨v, k, hv, hk⟩ := hN n hn
    have c3 : ¬ (j : Int) < (p[i].size : Int) := by omega
    refine ⟨v, k + 1, hv, ?_⟩
    unfold spec_l1Rooms.l1
    rw [if_pos c2, if_pos c1, rdOf_at hi, if_neg c3, wrap_succ (by omega)]
    exact hk
  | succ d ih =>
    intro j hj n hn
    have hb : 0 ≤ bt p[i] (j : Int) ∧ bt p[i] (j : Int) ≤ 255 := by
      unfold bt
      split
      · have := (p[i][((j : Int)).toNat]'(by assumption)).toNat_lt
        omega
      · omega
    have hw : wrap64 (wrap64 (wrap64 (bt p[i] (j : Int)) - 97) + 1) = bt p[i] (j : Int) - 97 + 1 := by unfold wrap64; omega
    obtain ⟨v, k, hv, hk⟩ := ih (j + 1) (by omega) (mx n (bt p[i] (j : Int) - 97 + 1)) (by unfold SmallN mx at *; split <;> omega)
    have c3 : (j : Int) < (p[i].size : Int) := by omega
    have c4 : (0 : Int) ≤ (j : Int) := by omega
    refine ⟨v, k + 1, hv, ?_⟩
    unfold spec_l1Rooms.l1
    rw [if_pos c2, if_pos c1, rdOf_at hi, if_pos c3, if_pos c4, hw, wrap_succ (by omega)]
    exact hk
theorem roomsAny_l0 (p : List ByteArray) (hp : SmallP p) : ∀ d i, i + d = p.length → ∀ n, SmallN n → ∃ v k, SmallN v ∧ spec_l1Rooms.l0 k p n (i : Int) = some v := by
  intro d
  induction d with
  | zero =>
    intro i hi n hn
    refine ⟨n, 1, hn, ?_⟩
    unfold spec_l1Rooms.l0
    rw [if_neg (by omega)]
  | succ d ih =>
    intro i hi n hn
    obtain ⟨v, k, hv, hk⟩ := roomsAny_row p hp i (by omega) (fun n hn => ih (i + 1) (by omega) n hn) _ 0 (Nat.zero_add _) n hn
    refine ⟨v, k + 1, hv, ?_⟩
    unfold spec_l1Rooms.l0
    rw [if_pos (by omega)]
    exact hk
theorem roomsAny (p : List ByteArray) (hp : SmallP p) : ∃ v k, SmallN v ∧ spec_l1Rooms.f k p = some v := by
  obtain ⟨v, k, hv, hk⟩ := roomsAny_l0 p hp _ 0 (Nat.zero_add _) 0 ⟨Int.le_refl _, by decide⟩
  exact ⟨v, k, hv, hk⟩
end Go.Proofs.Ytbpppchkgjcahaa
end
section
namespace Go.Proofs.Ytbpppchkgjcahaa
open Go.RowKit Go.Shelf Go.Proofs.YtbpppchkgjcahaaW.PrintWords Go.Proofs.YtbpppchkgjcahaaW.PrintMore
set_option linter.unusedVariables false
set_option linter.unusedSimpArgs false
set_option maxRecDepth 100000 in
set_option maxHeartbeats 4000000 in
theorem pick0_rd (b : Nat) (q m : Int) (w0 w : World) (h : Reader w0 w b q) (hq : 0 ≤ q ∧ q ≤ 100000) (hm : m < 1) :
    Calls Try.prog 127 #[.pointer (some ⟨b, 0, none⟩), .int .i64 m] w fun e w' => ∃ k : Nat, e = .returned (.int .i64 k) ∧ (k : Int) ≤ 0 ∧ Aside0 (Reader w0 w' b (q + 1)) ∧ Aside0 (∀ j, j ≠ b → w'.heap[j]? = w.heap[j]?) ∧ Aside0 (w'.heap.size = w.heap.size) := by
  have H := Aside0.mk h
  obtain ⟨A, n, cap, bs, h1, h2, h3, h4, h5, h6⟩ := h
  have c0 : w.cell? ⟨b, 0, none⟩ = some (.slice A n cap) := by rw [Lib.cell_of_heap h1]; rfl
  have c1 : w.cell? ⟨b, 1, none⟩ = some (.int .i64 q) := by rw [Lib.cell_of_heap h1]; rfl
  have z1 : w.frozen? ⟨b, 1, none⟩ = false := Lib.frozen_of_heap h1 1
  have hq0 := hq.1
  have hq1 := hq.2
  have hd : decide (m < 1) = true := decide_eq_true hm
  clear h1 h2 h3 h4 h5 h6 hq
  go_enter Try.func127, Try.ntmps127
  go_wp2
  go_ret
  exact ⟨0, rfl, by omega, ⟨H.out.set (q + 1)⟩, ⟨fun j hj => Below.heap_setCell _ _ _ _ hj⟩, ⟨World.size_setCell ..⟩⟩
theorem pickAny_rd (b : Nat) (q m : Int) (w0 w : World) (h : Reader w0 w b q) (hq : 0 ≤ q ∧ q ≤ 100000) (hm : m ≤ 100000) :
    Calls Try.prog 127 #[.pointer (some ⟨b, 0, none⟩), .int .i64 m] w fun e w' => ∃ k : Nat, e = .returned (.int .i64 k) ∧ k ≤ 100000 ∧ Aside0 (Reader w0 w' b (q + 1)) ∧ Aside0 (∀ j, j ≠ b → w'.heap[j]? = w.heap[j]?) ∧ Aside0 (w'.heap.size = w.heap.size) := by
  by_cases h1 : m < 1
  · refine (pick0_rd b q m w0 w h hq h1).mono ?_
    rintro e w' ⟨k, rfl, hk, a1, a2, a3⟩
    exact ⟨k, rfl, by omega, a1, a2, a3⟩
  · refine (pick_rd b q m w0 w h hq ⟨by omega, hm⟩).mono ?_
    rintro e w' ⟨k, rfl, hk, a1, _, a2, a3⟩
    exact ⟨k, rfl, by omega, a1, a2, a3⟩
def DrewTwo (w w' : World) (e : Ending) : Prop := ∃ (q : List ByteArray) (A' : Option Addr) (c' : Nat) (a b : Int), e = .returned (.tuple #[.slice A' q.length c', .int .i64 a, .int .i64 b]) ∧ Aside0 (1 ≤ q.length ∧ SmallP q ∧ q.length ≤ c' ∧ Kd.C Kd.string w' A' q.length q ∧ Below w.heap.size w w')
set_option maxRecDepth 100000 in
set_option maxHeartbeats 8000000 in
theorem l91Two_any (A : Option Addr) (n cap : Nat) (bs : List Int) (w : World) (h : Code0 w A n cap bs) :
    Calls Try.prog 73 #[.slice A n cap] w fun e w' => DrewTwo w w' e := by
  have H := Aside0.mk h
  clear h
  go_enter Try.func73, Try.ntmps73
  go_wp2_with fail
  refine (open_rd A n cap bs _ H.out).mono ?_
  rintro e w1 ⟨rfl, h1, h2⟩
  have H1 := Aside0.mk h1
  clear h1 h2
  have HS := Aside0.mk (l91Some_any w.heap.size 0 w w1 H1.out ⟨by omega, by omega⟩ 5 5 ⟨by omega, by omega⟩ ⟨by omega, by omega⟩)
  obtain ⟨b, hb⟩ : ∃ b, w.heap.size = b := ⟨_, rfl⟩
  have HBB := Aside0.mk hb
  rw [hb] at HS ⊢
  clear hb
  go_wp2_with fail
  refine HS.out.mono ?_
  rintro e w2 ⟨q, A2, c2, qn, rfl, l1, l2, q0, q1, HD⟩
  have hsm : SmallP q := ⟨by omega, fun s hs => by have := HD.out.1 s hs; omega⟩
  obtain ⟨v, k, hv, hk⟩ := roomsAny q hsm
  have HSM := Aside0.mk hsm
  have HP2 := Aside0.mk HD.out.2.1
  have HR2 := Aside0.mk HD.out.2.2
  have HRC := Aside0.mk (fun W (hC : Kd.C Kd.string W A2 q.length q) => L2.spec_l1Rooms.calls k A2 c2 q v W hC HP2.out.1 hk)
  have hv1 := hv.1
  have hv2 := hv.2
  clear hsm hv hk HD
  go_wp2_with fail
  refine (HRC.out w2 HP2.out.2.1).mono ?_
  rintro e w3 ⟨rfl, hb3⟩
  have HP3 := Aside0.mk (HP2.out.move (fun j _ hj => hb3.block j hj) hb3.size)
  have HR3 := Aside0.mk (HR2.out.on hb3)
  clear hb3
  go_wp2_with fail
  refine (pickAny_rd b qn v w w3 HR3.out ⟨q0, by omega⟩ (by omega)).mono ?_
  rintro e w4 ⟨k4, rfl, hk4, H4, a4, s4⟩
  have HP4 := Aside0.mk (HP3.out.move (fun j hj _ => a4.out j hj) (by rw [s4.out]; exact Nat.le_refl _))
  go_wp2_with fail
  refine (HRC.out w4 HP4.out.2.1).mono ?_
  rintro e w5 ⟨rfl, hb5⟩
  have HP5 := Aside0.mk (HP4.out.move (fun j _ hj => hb5.block j hj) hb5.size)
  have HR5 := Aside0.mk (H4.out.on hb5)
  clear hb5
  go_wp2_with fail
  refine (pick_rd b (qn + 1) 24 w w5 HR5.out ⟨by omega, by omega⟩ ⟨by omega, by omega⟩).mono ?_
  rintro e w6 ⟨k6, rfl, hk6, H6, _, a6, s6⟩
  have HP6 := Aside0.mk (HP5.out.move (fun j hj _ => a6.out j hj) (by rw [s6.out]; exact Nat.le_refl _))
  have HPK : Aside0 (∀ m : Int, m ≤ 100000 → Calls Try.prog 127 #[.pointer (some ⟨b, 0, none⟩), .int .i64 m] w6 fun e w' => ∃ k : Nat, e = .returned (.int .i64 k) ∧ k ≤ 100000 ∧ Aside0 (Reader w w' b (qn + 1 + 1 + 1)) ∧ Aside0 (∀ j, j ≠ b → w'.heap[j]? = w6.heap[j]?) ∧ Aside0 (w'.heap.size = w6.heap.size)) := ⟨fun m hm => pickAny_rd b (qn + 1 + 1) m w w6 H6.out ⟨by omega, by omega⟩ hm⟩
  go_wp2_with fail
  refine (HPK.out _ (by omega)).mono ?_
  rintro e w7 ⟨k7, rfl, hk7, H7, a7, s7⟩
  have HP7 := Aside0.mk (HP6.out.move (fun j hj _ => a7.out j hj) (by rw [s7.out]; exact Nat.le_refl _))
  go_wp2_with fail
  refine (pick_rd b (qn + 1 + 1 + 1) 24 w w7 H7.out ⟨by omega, by omega⟩ ⟨by omega, by omega⟩).mono ?_
  rintro e w8 ⟨k8, rfl, hk8, H8, _, a8, s8⟩
  have HP8 := Aside0.mk (HP7.out.move (fun j hj _ => a8.out j hj) (by rw [s8.out]; exact Nat.le_refl _))
  go_wp2_with fail
  first | go_ret3 | go_ret2 | go_ret
  exact ⟨q, A2, c2, _, _, rfl, ⟨l1, HSM.out, HP8.out.1, HP8.out.2.1, Reader.bel H8.out⟩⟩
theorem DrawNearWay_any (A : Option Addr) (n cap : Nat) (bs : List Int) (w : World) (h : Code0 w A n cap bs) :
    Calls Try.prog 20 #[.slice A n cap] w fun e w' => DrewTwo w w' e := by
  have H := Aside0.mk h
  clear h
  go_enter Try.func20, Try.ntmps20
  go_wp2_with fail
  refine (l91Two_any A n cap bs _ H.out).mono ?_
  rintro e w1 ⟨q, A2, c2, a, b, rfl, HD⟩
  go_wp2_with fail
  first | go_ret3 | go_ret2 | go_ret
  exact ⟨q, A2, c2, a, b, rfl, HD⟩
end Go.Proofs.Ytbpppchkgjcahaa
end
section
namespace Go.Proofs.Ytbpppchkgjcahaa
open Go.RowKit Go.Shelf Go.Proofs.YtbpppchkgjcahaaW.PrintWords Go.Proofs.YtbpppchkgjcahaaW.PrintMore
set_option linter.unusedVariables false
open Classical in
noncomputable def tot {α : Type} (g : Nat → Option α) : Option α := if h : ∃ r, Ev g r then some h.choose else none
theorem Ev.uniq {α : Type} {g : Nat → Option α} {r s : α} (h : Ev g r) (k : Ev g s) : r = s := by
  obtain ⟨a, h⟩ := h
  obtain ⟨b, k⟩ := k
  exact Option.some.inj ((h (a + b) (by omega)).symm.trans (k (a + b) (by omega)))
theorem tot_ev {α : Type} {g : Nat → Option α} {r : α} (h : Ev g r) : tot g = some r := by
  unfold tot
  rw [dif_pos ⟨r, h⟩]
  exact congrArg some (Ev.uniq (Exists.choose_spec (⟨r, h⟩ : ∃ r, Ev g r)) h)
theorem tot_ex {α : Type} {g : Nat → Option α} {r : α} (h : tot g = some r) : ∃ k, g k = some r := by
  unfold tot at h
  split at h
  · rename_i hx
    have := hx.choose_spec
    rw [Option.some.inj h] at this
    exact this.ex
  · cases h
noncomputable def spec_l1Rooms.f (l0 : List ByteArray) : Option (Int) := tot fun k => L2.spec_l1Rooms.f k l0
theorem spec_l1Rooms.calls (A0 : Option Addr) (c0 : Nat) (l0 : List ByteArray) (r : Int) (w : World) (hr0 : Kd.C Kd.string w A0 l0.length l0) (hc0 : l0.length ≤ c0) (h : spec_l1Rooms.f l0 = some r) :
    Calls Try.prog 65 #[.slice A0 l0.length c0] w fun e w' => e = .returned (.int .i64 r) ∧ Below w.heap.size w w' := by
  obtain ⟨k, hk⟩ := tot_ex h
  exact L2.spec_l1Rooms.calls k A0 c0 l0 r w hr0 hc0 hk
noncomputable def spec_l1Cells.f (l0 : List ByteArray) (a1 : Int) : Option (Int) := tot fun k => L2.spec_l1Cells.f k l0 a1
theorem spec_l1Cells.calls (A0 : Option Addr) (c0 : Nat) (l0 : List ByteArray) (a1 : Int) (r : Int) (w : World) (hr0 : Kd.C Kd.string w A0 l0.length l0) (hc0 : l0.length ≤ c0) (h : spec_l1Cells.f l0 a1 = some r) :
    Calls Try.prog 141 #[.slice A0 l0.length c0, .int .i64 a1] w fun e w' => e = .returned (.int .i64 r) ∧ Below w.heap.size w w' := by
  obtain ⟨k, hk⟩ := tot_ex h
  exact (L2.spec_l1Cells.calls k A0 c0 l0 a1 r w hr0 hc0 hk).mono fun e w' ⟨he, n, hw⟩ => ⟨he, by rw [hw]; exact pw_below_drewN (Below.refl _ _) _⟩
noncomputable def spec_l1Room.f (l0 : List ByteArray) (a1 : Int) : Option (Int × Int × Int × Int) := tot fun k => L2.spec_l1Room.f k l0 a1
theorem spec_l1Room.calls (A0 : Option Addr) (c0 : Nat) (l0 : List ByteArray) (a1 : Int) (r1 : Int) (r2 : Int) (r3 : Int) (r4 : Int) (w : World) (hr0 : Kd.C Kd.string w A0 l0.length l0) (hc0 : l0.length ≤ c0) (h : spec_l1Room.f l0 a1 = some (r1, r2, r3, r4)) :
    Calls Try.prog 140 #[.slice A0 l0.length c0, .int .i64 a1] w fun e w' => e = .returned (.tuple #[.int .i64 r1, .int .i64 r2, .int .i64 r3, .int .i64 r4]) ∧ Below w.heap.size w w' := by
  obtain ⟨k, hk⟩ := tot_ex h
  exact L2.spec_l1Room.calls k A0 c0 l0 a1 r1 r2 r3 r4 w hr0 hc0 hk
end Go.Proofs.Ytbpppchkgjcahaa
end
section
namespace Go.Proofs.Ytbpppchkgjcahaa
open Go.RowKit Go.Shelf Go.Proofs.YtbpppchkgjcahaaW.PrintWords Go.Proofs.YtbpppchkgjcahaaW.PrintMore
set_option linter.unusedVariables false
noncomputable def spec_l1Trans.f (l0 : List ByteArray) : Option (List ByteArray) := tot fun k => L3.spec_l1Trans.f k l0
theorem spec_l1Trans.calls (A0 : Option Addr) (c0 : Nat) (l0 : List ByteArray) (r : List ByteArray) (w : World) (hr0 : Kd.C Kd.string w A0 l0.length l0) (hc0 : l0.length ≤ c0) (h : spec_l1Trans.f l0 = some r) :
    Calls Try.prog 149 #[.slice A0 l0.length c0] w fun e w' => ∃ v : Value, e = .returned v ∧ Kd.R Kd.string 9 w' w.heap.size (fun _ => True) v r ∧ Below w.heap.size w w' := by
  obtain ⟨k, hk⟩ := tot_ex h
  exact L3.spec_l1Trans.calls k A0 c0 l0 r w hr0 hc0 hk
end Go.Proofs.Ytbpppchkgjcahaa
end
