/- The reference's PlanSplit of a plan, a room and the letter h or v: some plan of as many rows, if any. -/
import Derived.Test.YtdhnjecbdclmaaaKExPlanM
import Derived.Test.YtdhnjecbdclmaaaKFloorRM
namespace Go.Proofs.Ytdhnjecbdclmaaa
open Go.RowKit Go.Shelf Go.Proofs.YtdhnjecbdclmaaaW.PrintWords Go.Proofs.YtdhnjecbdclmaaaW.PrintMore
set_option linter.unusedVariables false
set_option linter.unusedSimpArgs false

theorem plan_small {p : List ByteArray} (h : planG p = true) : SmallP p := by
  have F := planFacts h
  have hs := namedT_small F.shape
  have e : namedT p = p := F.named
  rwa [e] at hs
theorem l6In_calls (a b c : Int) (w : World) : Calls Try.prog 175 #[.int .i64 a, .int .i64 b, .int .i64 c] w fun e w' => e = .returned (.bool (decide (b ≤ a ∧ a ≤ c))) ∧ Below w.heap.size w w' := by
  refine (L2.spec_l6In.calls a b c (decide (b ≤ a ∧ a ≤ c)) w ?_).mono fun e w' ⟨he, n, hw⟩ => ⟨he, by rw [hw]; exact pw_below_drewN (Below.refl _ _) _⟩
  unfold L2.spec_l6In.f
  split
  · rename_i h
    congr 1
    exact Bool.eq_iff_iff.2 (by simp; omega)
  · rename_i h
    congr 1
    exact Bool.eq_iff_iff.2 (by simp; omega)
set_option maxHeartbeats 4000000 in
theorem given_any (A : Option Addr) (cap : Nat) (p : List ByteArray) (hpl : planG p = true) (room : Nat) (hroom : room < (boxesP p).length) (w : World) (hr0 : Kd.C Kd.string w A p.length p) (hc0 : p.length ≤ cap) :
    Calls Try.prog 186 #[.slice A p.length cap, .int .i64 room] w fun e w' => e = .returned (.bool true) ∧ Below w.heap.size w w' := by
  have hp := plan_small hpl
  have hfew := (planFlat hpl).few
  have HPI := Aside0.mk (fun W (hW : Below w.heap.size w W) => spec_PlanIn.calls A cap p true W (Kd.C_below hr0 hW) hc0 (by unfold spec_PlanIn.f; rw [if_pos hp, hpl]))
  obtain ⟨kr, hkr⟩ := plan_rooms hpl
  have HRM := Aside0.mk (fun W (hW : Below w.heap.size w W) => L2.spec_l1Rooms.calls kr A cap p _ W (Kd.C_below hr0 hW) hc0 hkr)
  have HIN : Aside0 (∀ W, Calls Try.prog 175 #[.int .i64 room, .int .i64 0, .int .i64 (((boxesP p).length : Int) - 1)] W fun e w' => e = .returned (.bool true) ∧ Below W.heap.size W w') := ⟨fun W => by
    have := l6In_calls (room : Int) 0 (((boxesP p).length : Int) - 1) W
    rwa [decide_eq_true (by omega)] at this⟩
  obtain ⟨nb, hnb⟩ : ∃ nb, (boxesP p).length = nb := ⟨_, rfl⟩
  rw [hnb] at HRM HIN hfew hroom
  clear hr0 hkr hpl hp hnb
  go_enter Try.func186, Try.ntmps186
  go_wp2_with fail
  refine (HPI.out _ (Below.refl _ _)).mono ?_
  rintro e w1 ⟨rfl, hb1⟩
  have HB1 := Aside0.mk hb1
  clear hb1
  go_wp2_with fail
  refine (HRM.out _ HB1.out).mono ?_
  rintro e w2 ⟨rfl, hb2⟩
  have HB2 := Aside0.mk (HB1.out.trans (hb2.mono HB1.out.size))
  clear hb2
  go_wp2_with fail
  refine (HIN.out _).mono ?_
  rintro e w3 ⟨rfl, hb3⟩
  have HB3 := Aside0.mk (HB2.out.trans (hb3.mono HB2.out.size))
  clear hb3
  go_wp2_with fail
  go_ret
  exact ⟨rfl, HB3.out⟩
/-- What PlanSplit hands back here. -/
def SplitE (p : List ByteArray) (w w' : World) (e : Ending) : Prop := (∃ A' n' c' b q, e = .returned (.tuple #[.slice A' n' c', .bool b]) ∧ (b = true → n' = p.length ∧ q.length = p.length ∧ planG q = true ∧ w'.ownsRow w.heap.size 9 1 (.slice A' n' c') n' (encs Value.string q))) ∧ Below w.heap.size w w'
theorem putT_small {p : List ByteArray} (hp : SmallP p) (top d left w : Nat) (c : Int) : SmallP (putT p top d left w c) := by
  refine ⟨by rw [putT_len]; exact hp.1, fun s hs => ?_⟩
  unfold putT at hs
  obtain ⟨i, hi, rfl⟩ := List.mem_map.1 hs
  have hi := List.mem_range.1 hi
  have := hp.2 _ (List.getElem_mem hi)
  split
  · rw [str_size, rowPut_len, rdOf_get hi]; exact this
  · rw [rdOf_get hi]; exact this
set_option maxRecDepth 100000 in
set_option maxHeartbeats 8000000 in
theorem split_any (A : Option Addr) (cap : Nat) (p : List ByteArray) (hpl : planG p = true) (room : Nat) (hroom : room < (boxesP p).length) (s : ByteArray) (hs : s = ⟨#[104]⟩ ∨ s = ⟨#[118]⟩) (k : Nat) (hk : 1 ≤ k ∧ k ≤ 3) (w : World) (hr0 : Kd.C Kd.string w A p.length p) (hc0 : p.length ≤ cap) :
    Calls Try.prog 203 #[.slice A p.length cap, .int .i64 room, .string s, .int .i64 k] w fun e w' => SplitE p w w' e := by
  have hp := plan_small hpl
  have f := planFlat hpl
  have hhi := f.high
  have hwi := f.wide
  have t := planTG hpl
  have HGI := Aside0.mk (fun W (hW : Below w.heap.size w W) => given_any A cap p hpl room hroom W (Kd.C_below hr0 hW) hc0)
  obtain ⟨ko, hko⟩ := (plan_room hpl room hroom).ex
  obtain ⟨a, b, c, d, hbx, q1, q2, q3, q4, _⟩ := f.box room hroom
  rw [hbx] at hko
  have HRO := Aside0.mk (fun W (hW : Below w.heap.size w W) => L2.spec_l1Room.calls ko A cap p (room : Int) _ _ _ _ W (Kd.C_below hr0 hW) hc0 hko)
  have HNO := Aside0.mk none_any
  have HIN := Aside0.mk l6In_calls
  have HPU : Aside0 (∀ (W : World) (top left h wd : Nat) (T L H D : Int), Below w.heap.size w W → T = top → L = left → H = h → D = wd → top + h ≤ p.length → left + wd ≤ wdP p → Calls Try.prog 229 #[.slice A p.length cap, .int .i64 T, .int .i64 L, .int .i64 H, .int .i64 D, .int .u8 122] W fun e w' => (∃ g c', e = .returned (.slice (some ⟨g, 0, none⟩) p.length c') ∧ w'.ownsRow W.heap.size 9 1 (.slice (some ⟨g, 0, none⟩) p.length c') p.length (encs Value.string (putT p top h left wd 122))) ∧ Below W.heap.size W w') := ⟨fun W top left h wd T L H D hW e1 e2 e3 e4 h1 h2 => by
    subst e1 e2 e3 e4
    refine l1Put_any A cap p top left h wd 122 (by omega) h1 (by omega) (fun i hi => ?_) ⟨by omega, by omega⟩ W (Kd.C_below hr0 hW) hc0
    rw [t.size i hi]; omega⟩
  have HDO : Aside0 (∀ (W : World) (q : List ByteArray) (g c' : Nat), SmallP q → q.length = p.length → W.ownsRow w.heap.size 9 1 (.slice (some ⟨g, 0, none⟩) p.length c') p.length (encs Value.string q) → Calls Try.prog 228 #[.slice (some ⟨g, 0, none⟩) p.length c'] W fun e w' => (∃ A' n' c', e = .returned (.tuple #[.slice A' n' c', .bool (doneB q)]) ∧ (doneB q = true → n' = p.length ∧ w'.ownsRow W.heap.size 9 1 (.slice A' n' c') n' (encs Value.string (namedT q)))) ∧ Below W.heap.size W w') := ⟨fun W q g c' hq hl ho => by
    have := done_any (some ⟨g, 0, none⟩) c' q hq W (Kd.C_of_reads (d := ByteArray.empty) (enc := Value.string) (h1 := fun _ => rfl) (by have := own_reads_of' (d := ByteArray.empty) ho; rwa [← hl] at this)) (by have := own_cap ho; omega)
    rwa [hl] at this⟩
  have HSM := Aside0.mk (fun top h left wd => putT_small hp top h left wd 122)
  have hh4 : (c : Int) ≤ 6 := by omega
  have hw4 : (d : Int) ≤ 6 := by omega
  have ha4 : (a : Int) ≤ 6 := by omega
  have hb4 : (b : Int) ≤ 6 := by omega
  unfold natB at HRO
  obtain ⟨N, hN⟩ : ∃ N, p.length = N := ⟨_, rfl⟩
  obtain ⟨M, hM⟩ : ∃ M, wdP p = M := ⟨_, rfl⟩
  have HLEN := Aside0.mk hN
  have hk1 := hk.1
  have hk3 := hk.2
  rw [hM] at HPU q4
  have HFIN : Aside0 (∀ (W W' : World) (q : List ByteArray) (A' : Option Addr) (n' c' : Nat), q.length = p.length → Below w.heap.size w W → (doneB q = true → n' = p.length ∧ W'.ownsRow W.heap.size 9 1 (.slice A' n' c') n' (encs Value.string (namedT q))) → Below W.heap.size W W' → SplitE p w W' (.returned (.tuple #[.slice A' n' c', .bool (doneB q)]))) := ⟨fun W W' q A' n' c' hl hB h hb => by
    refine ⟨⟨A', n', c', doneB q, namedT q, rfl, fun hd => ?_⟩, hB.trans (hb.mono hB.size)⟩
    obtain ⟨h1, h2⟩ := h hd
    refine ⟨h1, by rw [namedT_len]; exact hl, ?_, own_weaken h2 hB.size⟩
    unfold doneB at hd
    rw [Bool.and_eq_true] at hd
    exact hd.2⟩
  have hq3 : a + c ≤ N := by omega
  clear hr0 hko hpl hp f t hhi hwi hbx hroom hk hM
  rw [hN]
  rw [hN] at HGI HRO HPU HDO
  clear hN
  rcases hs with rfl | rfl
  · by_cases hc : (k : Int) ≤ (c : Int) - 1
    · have HI1 : Aside0 (∀ W, Calls Try.prog 175 #[.int .i64 k, .int .i64 1, .int .i64 ((c : Int) - 1)] W fun e w' => e = .returned (.bool true) ∧ Below W.heap.size W w') := ⟨fun W => by
        have := HIN.out (k : Int) 1 ((c : Int) - 1) W
        rwa [decide_eq_true (by omega)] at this⟩
      go_enter Try.func203, Try.ntmps203
      go_wp2_with fail
      refine (HGI.out _ (Below.refl _ _)).mono ?_
      rintro e w1 ⟨rfl, hb1⟩
      have HB1 := Aside0.mk hb1
      clear hb1
      go_wp2_with fail
      refine (HRO.out _ HB1.out).mono ?_
      rintro e w2 ⟨rfl, hb2⟩
      have HB2 := Aside0.mk (HB1.out.trans (hb2.mono HB1.out.size))
      clear hb2
      go_wp2_with fail
      refine (HI1.out _).mono ?_
      rintro e w3 ⟨rfl, hb3⟩
      have HB3 := Aside0.mk (HB2.out.trans (hb3.mono HB2.out.size))
      clear hb3
      go_wp2_with fail
      refine (HPU.out _ (a + k) b (c - k) d _ _ _ _ HB3.out (by omega) (by omega) (by omega) (by omega) (by omega) (by omega)).mono ?_
      rintro e w4 ⟨⟨g4, c4, rfl, ho4⟩, hb4⟩
      have HB4 := Aside0.mk (HB3.out.trans (hb4.mono HB3.out.size))
      have HO4 := Aside0.mk (own_weaken ho4 HB3.out.size)
      clear hb4 ho4
      go_wp2_with fail
      refine (HDO.out _ _ g4 c4 (HSM.out _ _ _ _) (by rw [putT_len]; exact HLEN.out) HO4.out).mono ?_
      rintro e w5 ⟨⟨A5, n5, c5, rfl, ho5⟩, hb5⟩
      have HO5 := Aside0.mk ho5
      have HB5 := Aside0.mk hb5
      clear ho5 hb5
      go_wp2_with fail
      go_ret2
      exact HFIN.out _ _ _ _ _ _ (by rw [putT_len]) HB4.out (by rw [HLEN.out]; exact HO5.out) HB5.out
    · have HI1 : Aside0 (∀ W, Calls Try.prog 175 #[.int .i64 k, .int .i64 1, .int .i64 ((c : Int) - 1)] W fun e w' => e = .returned (.bool false) ∧ Below W.heap.size W w') := ⟨fun W => by
        have := HIN.out (k : Int) 1 ((c : Int) - 1) W
        rwa [decide_eq_false (by omega)] at this⟩
      go_enter Try.func203, Try.ntmps203
      go_wp2_with fail
      refine (HGI.out _ (Below.refl _ _)).mono ?_
      rintro e w1 ⟨rfl, hb1⟩
      have HB1 := Aside0.mk hb1
      clear hb1
      go_wp2_with fail
      refine (HRO.out _ HB1.out).mono ?_
      rintro e w2 ⟨rfl, hb2⟩
      have HB2 := Aside0.mk (HB1.out.trans (hb2.mono HB1.out.size))
      clear hb2
      go_wp2_with fail
      refine (HI1.out _).mono ?_
      rintro e w3 ⟨rfl, hb3⟩
      have HB3 := Aside0.mk (HB2.out.trans (hb3.mono HB2.out.size))
      clear hb3
      go_wp2_with fail
      refine (HNO.out _).mono ?_
      rintro e w4 ⟨⟨A4, n4, c4, rfl⟩, hb4⟩
      have HB4 := Aside0.mk (HB3.out.trans (hb4.mono HB3.out.size))
      clear hb4
      go_wp2_with fail
      go_ret2
      exact ⟨⟨_, _, _, false, [], rfl, fun h => by cases h⟩, HB4.out⟩
  · by_cases hc : (k : Int) ≤ (d : Int) - 1
    · have HI1 : Aside0 (∀ W, Calls Try.prog 175 #[.int .i64 k, .int .i64 1, .int .i64 ((d : Int) - 1)] W fun e w' => e = .returned (.bool true) ∧ Below W.heap.size W w') := ⟨fun W => by
        have := HIN.out (k : Int) 1 ((d : Int) - 1) W
        rwa [decide_eq_true (by omega)] at this⟩
      go_enter Try.func203, Try.ntmps203
      go_wp2_with fail
      refine (HGI.out _ (Below.refl _ _)).mono ?_
      rintro e w1 ⟨rfl, hb1⟩
      have HB1 := Aside0.mk hb1
      clear hb1
      go_wp2_with fail
      refine (HRO.out _ HB1.out).mono ?_
      rintro e w2 ⟨rfl, hb2⟩
      have HB2 := Aside0.mk (HB1.out.trans (hb2.mono HB1.out.size))
      clear hb2
      go_wp2_with fail
      refine (HI1.out _).mono ?_
      rintro e w3 ⟨rfl, hb3⟩
      have HB3 := Aside0.mk (HB2.out.trans (hb3.mono HB2.out.size))
      clear hb3
      go_wp2_with fail
      refine (HPU.out _ a (b + k) c (d - k) _ _ _ _ HB3.out (by omega) (by omega) (by omega) (by omega) (by omega) (by omega)).mono ?_
      rintro e w4 ⟨⟨g4, c4, rfl, ho4⟩, hb4⟩
      have HB4 := Aside0.mk (HB3.out.trans (hb4.mono HB3.out.size))
      have HO4 := Aside0.mk (own_weaken ho4 HB3.out.size)
      clear hb4 ho4
      go_wp2_with fail
      refine (HDO.out _ _ g4 c4 (HSM.out _ _ _ _) (by rw [putT_len]; exact HLEN.out) HO4.out).mono ?_
      rintro e w5 ⟨⟨A5, n5, c5, rfl, ho5⟩, hb5⟩
      have HO5 := Aside0.mk ho5
      have HB5 := Aside0.mk hb5
      clear ho5 hb5
      go_wp2_with fail
      go_ret2
      exact HFIN.out _ _ _ _ _ _ (by rw [putT_len]) HB4.out (by rw [HLEN.out]; exact HO5.out) HB5.out
    · have HI1 : Aside0 (∀ W, Calls Try.prog 175 #[.int .i64 k, .int .i64 1, .int .i64 ((d : Int) - 1)] W fun e w' => e = .returned (.bool false) ∧ Below W.heap.size W w') := ⟨fun W => by
        have := HIN.out (k : Int) 1 ((d : Int) - 1) W
        rwa [decide_eq_false (by omega)] at this⟩
      go_enter Try.func203, Try.ntmps203
      go_wp2_with fail
      refine (HGI.out _ (Below.refl _ _)).mono ?_
      rintro e w1 ⟨rfl, hb1⟩
      have HB1 := Aside0.mk hb1
      clear hb1
      go_wp2_with fail
      refine (HRO.out _ HB1.out).mono ?_
      rintro e w2 ⟨rfl, hb2⟩
      have HB2 := Aside0.mk (HB1.out.trans (hb2.mono HB1.out.size))
      clear hb2
      go_wp2_with fail
      refine (HI1.out _).mono ?_
      rintro e w3 ⟨rfl, hb3⟩
      have HB3 := Aside0.mk (HB2.out.trans (hb3.mono HB2.out.size))
      clear hb3
      go_wp2_with fail
      refine (HNO.out _).mono ?_
      rintro e w4 ⟨⟨A4, n4, c4, rfl⟩, hb4⟩
      have HB4 := Aside0.mk (HB3.out.trans (hb4.mono HB3.out.size))
      clear hb4
      go_wp2_with fail
      go_ret2
      exact ⟨⟨_, _, _, false, [], rfl, fun h => by cases h⟩, HB4.out⟩
end Go.Proofs.Ytdhnjecbdclmaaa
