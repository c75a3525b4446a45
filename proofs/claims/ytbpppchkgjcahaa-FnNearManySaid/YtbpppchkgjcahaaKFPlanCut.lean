/- The reference's l91Cut: rooms of a plan are cut so often as it can; some plan of as many rows. -/
import Derived.Test.YtbpppchkgjcahaaKFFloorRM
import Derived.Test.YtbpppchkgjcahaaKFReader
namespace Go.Proofs.Ytbpppchkgjcahaa
open Go.RowKit Go.Shelf Go.Proofs.YtbpppchkgjcahaaW.PrintWords Go.Proofs.YtbpppchkgjcahaaW.PrintMore
set_option linter.unusedVariables false
set_option linter.unusedSimpArgs false
theorem ad_blk (a : Addr) (n : Nat) : (a.add n).block = a.block := by unfold Addr.add; split <;> rfl
def PlanAt (b : Nat) (W : World) (A : Option Addr) (c : Nat) (p : List ByteArray) : Prop := p.length ≤ c ∧ Kd.C Kd.string W A p.length p ∧ ∀ a, A = some a → a.block ≠ b ∧ a.block < W.heap.size
theorem PlanAt.move {b : Nat} {W W' : World} {A : Option Addr} {c : Nat} {p : List ByteArray} (h : PlanAt b W A c p) (hm : ∀ j, j ≠ b → j < W.heap.size → W'.heap[j]? = W.heap[j]?) (hs : W.heap.size ≤ W'.heap.size) : PlanAt b W' A c p := by
  obtain ⟨h1, h2, h3⟩ := h
  refine ⟨h1, ?_, fun a ha => ⟨(h3 a ha).1, Nat.lt_of_lt_of_le (h3 a ha).2 hs⟩⟩
  have hr := Kd.reads_of_C (enc := Value.string) (d := ByteArray.empty) (h1 := fun _ => rfl) h2
  refine Kd.C_of_reads (d := ByteArray.empty) (enc := Value.string) (h1 := fun _ => rfl) ⟨hr.1, hr.2.1, fun h0 => ?_⟩
  obtain ⟨ad, hA, hc⟩ := hr.2.2 h0
  refine ⟨ad, hA, fun j hj => ?_⟩
  rw [← hc j hj]
  exact World.cell?_of_block (by rw [ad_blk]; exact hm _ (h3 ad hA).1 (h3 ad hA).2)
theorem PlanAt.on {b : Nat} {W W' : World} {A : Option Addr} {c : Nat} {p : List ByteArray} (h : PlanAt b W A c p) (hb : Below W.heap.size W W') : PlanAt b W' A c p := h.move (fun j _ hj => hb.block j hj) hb.size
theorem PlanAt.own {b base : Nat} {W : World} {A : Option Addr} {n c : Nat} {p : List ByteArray} (h : W.ownsRow base 9 1 (.slice A n c) n (encs Value.string p)) (hn : p.length = n) (hb : b < base) : PlanAt b W A c p := by
  subst hn
  refine ⟨own_cap h, Kd.C_of_reads (d := ByteArray.empty) (enc := Value.string) (h1 := fun _ => rfl) (own_reads_of' (d := ByteArray.empty) h), fun a ha => ?_⟩
  subst ha
  have h1 := own_base h a.block rfl
  have h2 := own_lt h a.block rfl
  exact ⟨by omega, h2⟩
theorem Reader.on {w0 w W : World} {b : Nat} {q : Int} (h : Reader w0 w b q) (hb : Below w.heap.size w W) : Reader w0 W b q := by
  obtain ⟨A, n, cap, bs, h1, h2, h3, h4, h5, h6⟩ := h
  exact ⟨A, n, cap, bs, h1.below hb, h2, h3, h4, h5.trans (hb.mono h5.size), h6⟩
theorem plan_rooms_pos {p : List ByteArray} (h : planG p = true) : 1 ≤ (boxesP p).length := by
  have f := planFlat h
  obtain ⟨k, hk, _⟩ := f.num 0 0 (by have := f.high; omega) (by have := f.wide; omega)
  omega
def DrewP (N : Nat) (w0 : World) (b : Nat) (q1 : Int) (w' : World) (e : Ending) : Prop := ∃ (q : List ByteArray) (A' : Option Addr) (c' : Nat) (qn : Int), e = .returned (.slice A' q.length c') ∧ q.length = N ∧ 0 ≤ qn ∧ qn ≤ q1 ∧ Aside0 (planG q = true ∧ PlanAt b w' A' c' q ∧ Reader w0 w' b qn)
set_option maxRecDepth 100000 in
set_option maxHeartbeats 8000000 in
theorem l91Cut_any (b : Nat) (q0 : Int) (w0 w : World) (h : Reader w0 w b q0) (hq : 0 ≤ q0 ∧ q0 ≤ 1000) (A : Option Addr) (cap : Nat) (p : List ByteArray) (hp : PlanAt b w A cap p) (hpl : planG p = true) (many : Nat) (hm : many ≤ 10) :
    Calls Try.prog 214 #[.pointer (some ⟨b, 0, none⟩), .slice A p.length cap, .int .i64 many] w fun e w' => DrewP p.length w0 b (q0 + 40) w' e := by
  have H := Aside0.mk h
  have HP := Aside0.mk hp
  have HPL := Aside0.mk hpl
  have hq1 := hq.1
  have hq2 := hq.2
  clear h hp hpl hq
  obtain ⟨N, hN⟩ : ∃ N, p.length = N := ⟨_, rfl⟩
  have HN := Aside0.mk hN
  rw [hN]
  clear hN
  go_enter Try.func214, Try.ntmps214
  go_wp2_with fail
  go_loopw [1, 7] (fun v i wr => ∃ (t : Nat) (q : List ByteArray) (A' : Option Addr) (c' : Nat) (qn : Int), i = .int .i64 t ∧ t ≤ many ∧ v = .slice A' N c' ∧ 0 ≤ qn ∧ qn ≤ q0 + 3 * (t : Int) ∧ Aside0 (q.length = N ∧ planG q = true ∧ PlanAt b wr A' c' q ∧ Reader w0 wr b qn)) (fun _ i _ => many - (intOf i).toNat)
  case atStart => exact ⟨0, p, A, cap, q0, rfl, Nat.zero_le _, rfl, hq1, by omega, ⟨HN.out, HPL.out, HP.out, H.out⟩⟩
  case round =>
    obtain ⟨t, q, A', c', qn, rfl, ht, rfl, h0, h1, HD⟩ := hrel
    by_cases hlt : t < many
    · have hrp := plan_rooms_pos HD.out.2.1
      have hfew := (planFlat HD.out.2.1).few
      obtain ⟨kr, hkr⟩ := plan_rooms HD.out.2.1
      have HRM := Aside0.mk (L2.spec_l1Rooms.calls kr A' c' q _ wr HD.out.2.2.1.2.1 HD.out.2.2.1.1 hkr)
      obtain ⟨nb, hnb⟩ : ∃ nb, (boxesP q).length = nb := ⟨_, rfl⟩
      have HNB := Aside0.mk hnb
      rw [hnb] at hrp hfew HRM
      rw [HD.out.1] at HRM
      have hbl := Reader.lt HD.out.2.2.2
      have HBL := Aside0.mk hbl
      clear hkr hnb hbl
      go_wp2_with fail
      refine HRM.out.mono ?_
      rintro e w1 ⟨rfl, hb1⟩
      have HR1 := Aside0.mk (HD.out.2.2.2.on hb1)
      have HP1 := Aside0.mk (HD.out.2.2.1.on hb1)
      clear hb1
      go_wp2_with fail
      refine (pick_rd b qn nb w0 w1 HR1.out ⟨by omega, by omega⟩ ⟨by omega, by omega⟩).mono ?_
      rintro e w2 ⟨room, rfl, hroom, H1, H2, H3, H4⟩
      have HP2 := Aside0.mk (HP1.out.move (fun j h1 _ => H3.out j h1) (by rw [H4.out]; exact Nat.le_refl _))
      clear H2 H3 H4 HP1 HR1
      go_wp2_with fail
      have HPA : Aside0 (PlanAt b (w2.alloc (.cells #[.string ⟨#[104]⟩, .string ⟨#[118]⟩] 9)) A' c' q) := ⟨HP2.out.on ((Below.refl _ _).alloc (Nat.le_refl _) _)⟩
      have HLT2 : Aside0 (b < w2.heap.size) := ⟨Reader.lt H1.out⟩
      refine (of_any b (qn + 1) w0 _ (H1.out.alloc _) ⟨by omega, by omega⟩ w2.heap.size 2 ⟨by omega, by omega⟩ [⟨#[104]⟩, ⟨#[118]⟩] rfl (by have := HLT2.out; omega) (str_cells (new_at rfl) _ rfl)).mono ?_
      rintro e w3 ⟨s, hs, rfl, H5, H6, H7⟩
      have HP3 := Aside0.mk (HPA.out.move (fun j h1 _ => H6.out j h1) (by rw [H7.out]; exact Nat.le_refl _))
      clear H6 H7 HPA HP2 H1 HLT2
      go_wp2_with fail
      refine (pick_rd b (qn + 1 + 1) 3 w0 w3 H5.out ⟨by omega, by omega⟩ ⟨by omega, by omega⟩).mono ?_
      rintro e w4 ⟨k, rfl, hk, H8, H9, H10, H11⟩
      have HP4 := Aside0.mk (HP3.out.move (fun j h1 _ => H10.out j h1) (by rw [H11.out]; exact Nat.le_refl _))
      have hs2 : s = ⟨#[104]⟩ ∨ s = ⟨#[118]⟩ := by simpa using hs
      have HSP : Aside0 (∀ K : Int, K = ((k + 1 : Nat) : Int) → Calls Try.prog 223 #[.slice A' N c', .int .i64 room, .string s, .int .i64 K] w4 fun e w' => SplitE q w4 w' e) := ⟨fun K hK => by
        have := split_any A' c' q HD.out.2.1 room (by rw [HNB.out]; omega) s hs2 (k + 1) ⟨by omega, by omega⟩ w4 HP4.out.2.1 HP4.out.1
        rwa [HD.out.1, ← hK] at this⟩
      clear H9 H10 H11 HP3 H5 hs hs2
      go_wp2_with fail
      refine (HSP.out _ (by omega)).mono ?_
      rintro e w5 ⟨⟨A5, n5, c5, ok, q5, rfl, h5⟩, hb5⟩
      have HR5 := Aside0.mk (H8.out.on hb5)
      have HP5 := Aside0.mk (HP4.out.on hb5)
      have H5 := Aside0.mk h5
      have HLT4 : Aside0 (b < w4.heap.size) := ⟨Reader.lt H8.out⟩
      clear hb5 h5 HSP
      cases ok with
      | true =>
        obtain ⟨z1, z2, z3, z4⟩ := H5.out rfl
        rw [HD.out.1] at z1 z2
        have HZ := Aside0.mk (And.intro z2 (And.intro z3 z4))
        clear z2 z3 z4 H5
        subst z1
        go_wp2_with fail
        refine ⟨⟨t + 1, q5, A5, c5, qn + 1 + 1 + 1, by push_cast; rfl, by omega, rfl, by omega, by push_cast; omega, ⟨HZ.out.1, HZ.out.2.1, PlanAt.own HZ.out.2.2 HZ.out.1 HLT4.out, HR5.out⟩⟩, by simp [intOf]; omega⟩
      | false =>
        go_wp2_with fail
        refine ⟨⟨t + 1, q, A', c', qn + 1 + 1 + 1, by push_cast; rfl, by omega, rfl, by omega, by push_cast; omega, ⟨HD.out.1, HD.out.2.1, HP5.out, HR5.out⟩⟩, by simp [intOf]; omega⟩
    · go_wp2_with fail
      go_ret
      exact ⟨q, A', c', qn, by rw [HD.out.1]; rfl, HD.out.1, h0, by omega, ⟨HD.out.2.1, HD.out.2.2.1, HD.out.2.2.2⟩⟩
end Go.Proofs.Ytbpppchkgjcahaa
