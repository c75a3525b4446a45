/- The reference's CutStuck, walked by hand. -/
import Derived.Test.YtiehiockjlhbcaaKCutStuckP
namespace Go.Proofs.Ytiehiockjlhbcaa
open Go.RowKit Go.Shelf Go.Proofs.YtiehiockjlhbcaaW.PrintWords Go.Proofs.YtiehiockjlhbcaaW.PrintMore
set_option linter.unusedVariables false
set_option linter.unusedSimpArgs false

theorem add_blk (a : Addr) (n : Nat) : (a.add n).block = a.block := by unfold Addr.add; split <;> rfl
theorem C_grown {w w1 : World} {A : Option Addr} {q : List ByteArray} {row : Option Nat} (h : Kd.C Kd.string w A q.length q) (hg : w.grownBy w1 row) (hn : ∀ a, A = some a → some a.block ≠ row) : Kd.C Kd.string w1 A q.length q := by
  have hr := Kd.reads_of_C (enc := Value.string) (d := ByteArray.empty) (h1 := fun _ => rfl) h
  refine Kd.C_of_reads (d := ByteArray.empty) (enc := Value.string) (h1 := fun _ => rfl) ⟨hr.1, hr.2.1, fun h0 => ?_⟩
  obtain ⟨ad, hA, hc⟩ := hr.2.2 h0
  exact ⟨ad, hA, fun j hj => hg.cell (hc j hj) (by rw [add_blk]; exact hn ad hA)⟩
theorem C_block {w : World} {A : Option Addr} {q : List ByteArray} (h : Kd.C Kd.string w A q.length q) (hq : 0 < q.length) {b : Nat} {t : TypeId} {fr : Nat × Nat} (hb : w.heap[b]? = some (.cells #[] t fr)) : ∀ a, A = some a → a.block < w.heap.size ∧ a.block ≠ b := by
  have hr := Kd.reads_of_C (enc := Value.string) (d := ByteArray.empty) (h1 := fun _ => rfl) h
  obtain ⟨ad, hA, hc⟩ := hr.2.2 hq
  intro a ha
  rw [hA] at ha
  injection ha with ha
  subst ha
  have := hc 0 hq
  refine ⟨?_, fun e => ?_⟩
  · have := World.block_lt_of_cell? w _ this
    rwa [add_blk] at this
  · unfold World.cell? at this
    rw [add_blk, e, hb] at this
    simp at this
/-- What CutStuck hands back: the rooms, and whether there are any. -/
def cutStuckP (p : List ByteArray) : List Int := if planG p then stuckRooms p else []
set_option maxRecDepth 100000 in
set_option maxHeartbeats 8000000 in
theorem specCutStuck_any (A : Option Addr) (cap : Nat) (p : List ByteArray) (hp : SmallP p) (w : World) (hr0 : Kd.C Kd.string w A p.length p) (hc0 : p.length ≤ cap) :
    Calls Try.prog 31 #[.slice A p.length cap] w fun e w' => (∃ A' c', e = .returned (.tuple #[.slice A' (cutStuckP p).length c', .bool (decide (0 < (cutStuckP p).length))]) ∧ w'.ownsRow w.heap.size 3 1 (.slice A' (cutStuckP p).length c') (cutStuckP p).length (nums .i64 (cutStuckP p))) ∧ Below w.heap.size w w' := by
  have HPI := Aside0.mk (fun W (hW : Below w.heap.size w W) => spec_PlanIn.calls A cap p (planG p) W (Kd.C_below hr0 hW) hc0 (by unfold spec_PlanIn.f; rw [if_pos hp]))
  have HB0 : Aside0 (Below w.heap.size w (w.alloc (.cells #[] 3))) := ⟨(Below.refl _ _).alloc (Nat.le_refl _) _⟩
  have HO0 : Aside0 ((w.alloc (.cells #[] 3)).ownsRow w.heap.size 3 1 (.slice (some ⟨w.heap.size, 0, none⟩) 0 0) 0 (nums .i64 [])) := ⟨own_lit w w.heap.size 3 .i64 [] (Nat.le_refl _) (by simp)⟩
  by_cases hpl : planG p = true
  · have hv : cutStuckP p = stuckRooms p := by unfold cutStuckP; rw [if_pos hpl]
    rw [hv, ← outK_rooms p]
    rw [hpl] at HPI
    have f := planFlat hpl
    have hhi := f.high
    have hwi := f.wide
    have hfew := f.few
    have F := Aside0.mk f
    have HST := Aside0.mk (fun W (hW : Below w.heap.size w W) => specStuck_any f 13 (by omega) 0 0 p.length (wdP p) p (by omega) f.whole (planTG hpl) A cap W (Kd.C_below hr0 hW) hc0)
    obtain ⟨kr, hkr⟩ := plan_rooms hpl
    have HRM := Aside0.mk (fun W (hW : Below w.heap.size w W) => L2.spec_l1Rooms.calls kr A cap p _ W (Kd.C_below hr0 hW) hc0 hkr)
    have HWW := Aside0.mk (fun R hR => stuck_whole f 13 0 0 p.length (wdP p) f.whole R hR)
    change Aside0 (∀ R, stuckO p = some R → _) at HWW
    change Aside0 (∀ W (hW : Below w.heap.size w W), Calls Try.prog 61 #[.slice A p.length cap] W fun e w' => StuckE (clP p) (stuckO p) W w' e) at HST
    obtain ⟨o, ho⟩ : ∃ o, stuckO p = o := ⟨_, rfl⟩
    rw [ho] at HWW HST
    rw [ho]
    obtain ⟨cl, hcl⟩ : ∃ cl, clP p = cl := ⟨_, rfl⟩
    obtain ⟨boxes, hbx⟩ : ∃ b, boxesP p = b := ⟨_, rfl⟩
    rw [hcl] at HWW HST F
    rw [hbx] at HRM F hfew
    rw [hbx]
    clear hv hkr hpl f hcl hbx ho hr0
    go_enter Try.func31, Try.ntmps31
    go_wp2_with fail
    refine (HPI.out _ HB0.out).mono ?_
    rintro e w1 ⟨rfl, hb1⟩
    have HB1 := Aside0.mk (HB0.out.trans (hb1.mono HB0.out.size))
    have HO1 := Aside0.mk (pw_own_below HO0.out hb1)
    have HE1 : Aside0 (w1.heap[w.heap.size]? = some (.cells #[] 3 (0, 0))) := ⟨(hb1.block _ (by simp)).trans (heap_alloc_new w _)⟩
    have HS1 : Aside0 (w.heap.size < w1.heap.size) := ⟨by have := hb1.size; simp at this; omega⟩
    clear hb1
    go_wp2_with fail
    refine (HST.out _ HB1.out).mono ?_
    rintro e w2 ⟨q, A2, c2, n2, rfl, rfl, hl2, hC2, hT2, hb2⟩
    have HB2 := Aside0.mk (HB1.out.trans (hb2.mono HB1.out.size))
    have HO2 := Aside0.mk (pw_own_below HO1.out hb2)
    have HE2 : Aside0 (w2.heap[w.heap.size]? = some (.cells #[] 3 (0, 0))) := ⟨(hb2.block _ HS1.out).trans HE1.out⟩
    have HS2 : Aside0 (w.heap.size < w2.heap.size) := ⟨by have := hb2.size; have := HS1.out; omega⟩
    have HC2 := Aside0.mk hC2
    have HT2 := Aside0.mk hT2
    have hq : q.length ≤ 6 ∧ (o = none ↔ q.length = 0) := by
      cases o with
      | none =>
        have hT2 : q = [] := hT2
        rw [hT2]; simp
      | some R =>
        have t : TG q R.2.2.1 R.2.2.2 (gridOf cl R.1 R.2.1) := hT2
        have h1 := t.len
        have h2 := t.high
        exact ⟨by omega, fun h => (by cases h), fun h => (by omega)⟩
    have HQ := Aside0.mk hq.2
    have HBK : Aside0 (0 < q.length → ∀ a, A2 = some a → a.block < w2.heap.size ∧ a.block ≠ w.heap.size) := ⟨fun h => C_block hC2 h HE2.out⟩
    clear hb2 hC2 hT2 hq
    go_wp2_with fail
    go_loopw [4, 6] (fun v i wr => ∃ (k n c : Nat) (A : Option Addr), i = .int .i64 k ∧ k ≤ boxes.length ∧ v = .slice A n c ∧ Aside0 (n = (outK boxes o k).length ∧ wr.ownsRow w.heap.size 3 1 (.slice A n c) n (nums .i64 (outK boxes o k)) ∧ Below w.heap.size w wr ∧ w2.heap.size ≤ wr.heap.size ∧ Kd.C Kd.string wr A2 q.length q ∧ ∀ a, A = some a → a.block = w.heap.size ∨ w2.heap.size ≤ a.block)) (fun _ i _ => boxes.length - (intOf i).toNat)
    case atStart =>
      refine ⟨0, 0, 0, some ⟨w.heap.size, 0, none⟩, rfl, Nat.zero_le _, rfl, ⟨?_, ?_, HB2.out, Nat.le_refl _, HC2.out, fun a ha => ?_⟩⟩
      · cases o <;> rfl
      · have : outK boxes o 0 = [] := by cases o <;> rfl
        rw [this]; exact HO2.out
      · injection ha with ha; exact .inl (by rw [← ha])
    case round =>
      obtain ⟨k, n, c, A1, rfl, hk, rfl, HD⟩ := hrel
      go_wp2_with fail
      refine (HRM.out _ HD.out.2.2.1).mono ?_
      rintro e w3 ⟨rfl, hb3⟩
      have HB3 := Aside0.mk hb3
      clear hb3
      by_cases hlt : (k : Int) < (boxes.length : Int)
      · have hkl : k < boxes.length := by omega
        cases o with
        | none =>
          have hz : ¬ 0 < q.length := by have := HQ.out.1 rfl; omega
          go_wp2_with fail
          refine ⟨⟨k + 1, n, c, A1, by push_cast; rfl, by omega, rfl, ⟨HD.out.1, pw_own_below HD.out.2.1 HB3.out, HD.out.2.2.1.trans (HB3.out.mono HD.out.2.2.1.size), Nat.le_trans HD.out.2.2.2.1 HB3.out.size, Kd.C_below HD.out.2.2.2.2.1 HB3.out, HD.out.2.2.2.2.2⟩⟩, by simp [intOf]; omega⟩
        | some R =>
          have t : TG q R.2.2.1 R.2.2.2 (gridOf cl R.1 R.2.1) := HT2.out
          have hql : 0 < q.length := by have h1 := t.len; have h2 := t.high; omega
          obtain ⟨m, j, hj, hm, hmm⟩ := cells_part F.out (HWW.out R rfl) t k hkl
          have HCL := Aside0.mk (L2.spec_l1Cells.calls j A2 c2 q (k : Int) m w3 (Kd.C_below HD.out.2.2.2.2.1 HB3.out) hl2 hj)
          have HMM := Aside0.mk hmm
          clear hj hmm t
          by_cases hm0 : 0 < m
          · have hyes := listL_yes (b := boxR R) hkl (HMM.out.1 hm0)
            have HYES := Aside0.mk hyes
            clear hyes
            go_wp2_with (first | (go_at_call 62; refine HCL.out.mono ?_; rintro e w4 ⟨rfl, nd, rfl⟩; have HB4 : Aside0 (Below w.heap.size w (w3.drewN nd)) := ⟨pw_below_drewN (HD.out.2.2.1.trans (HB3.out.mono HD.out.2.2.1.size)) _⟩) | (at_builtin; refine print_append_num (w0 := w) w.heap.size rfl (.tmp 29) (.tmp 31) 34 3 .i64 8 rfl Try.underlying34 (by kernel_rfl) (by omega) _ (outK boxes (some R) k) (k : Int) rfl rfl ?k1 ?k4 ?k3 ?k2 ?_; (case k1 => rw [← HD.out.1]; exact pw_own_below (pw_own_below HD.out.2.1 HB3.out) (pw_below_drewN (Below.refl _ _) _)); (case k4 => exact HB4.out); (case k3 => exact HB4.out.size); (case k2 => have := outK_len boxes (some R) k; omega); intro v1 w5 ho hB hg hat; have HO5 := Aside0.mk ho; have HB5 := Aside0.mk hB; have HG5 := Aside0.mk hg; have HAT := Aside0.mk hat; clear ho hB hg hat))
            obtain ⟨A5, c5, rfl⟩ := own_slice HO5.out
            have hrow : outK boxes (some R) (k + 1) = outK boxes (some R) k ++ [(k : Int)] := HYES.out
            have hsz : w2.heap.size ≤ (w3.drewN nd).heap.size := Nat.le_trans HD.out.2.2.2.1 HB3.out.size
            refine ⟨⟨k + 1, (outK boxes (some R) k ++ [(k : Int)]).length, c5, A5, by push_cast; rfl, by omega, rfl, ⟨by rw [hrow], by rw [hrow]; exact HO5.out, HB5.out, Nat.le_trans hsz HG5.out.size, ?_, ?_⟩⟩, by simp [intOf]; omega⟩
            · refine C_grown (Kd.C_below (Kd.C_below HD.out.2.2.2.2.1 HB3.out) (pw_below_drewN (Below.refl _ _) nd)) HG5.out ?_
              intro a ha e
              have h1 := HBK.out hql a ha
              cases A1 with
              | none => cases e
              | some a1 =>
                have e1 : a.block = a1.block := Option.some.inj e
                rcases HD.out.2.2.2.2.2 a1 rfl with h2 | h2 <;> omega
            · intro a ha
              subst ha
              rcases HAT.out with h | ⟨b, h, hb⟩
              · cases A1 with
                | none => cases h
                | some a1 =>
                  have e1 : a.block = a1.block := Option.some.inj h
                  rw [e1]; exact HD.out.2.2.2.2.2 a1 rfl
              · have e1 : a.block = b := Option.some.inj h
                right; omega
          · have hno := listL_no (b := boxR R) hkl (fun e => hm0 (HMM.out.2 e))
            have HNO := Aside0.mk hno
            clear hno
            go_wp2_with (first | (go_at_call 62; refine HCL.out.mono ?_; rintro e w4 ⟨rfl, nd, rfl⟩))
            have HBD : Below wr.heap.size wr (w3.drewN nd) := pw_below_drewN HB3.out _
            refine ⟨⟨k + 1, n, c, A1, by push_cast; rfl, by omega, rfl, ⟨by show n = (listL boxes (boxR R) (k + 1)).length; rw [HNO.out]; exact HD.out.1, by show World.ownsRow _ _ _ _ _ _ (nums .i64 (listL boxes (boxR R) (k + 1))); rw [HNO.out]; exact pw_own_below HD.out.2.1 HBD, HD.out.2.2.1.trans (HBD.mono HD.out.2.2.1.size), Nat.le_trans HD.out.2.2.2.1 HBD.size, Kd.C_below HD.out.2.2.2.2.1 HBD, HD.out.2.2.2.2.2⟩⟩, by simp [intOf]; omega⟩
      · have hke : k = boxes.length := by omega
        subst hke
        go_wp2_with fail
        go_ret2
        obtain ⟨h1, h2, h3, _⟩ := HD.out
        subst h1
        exact ⟨⟨A1, c, rfl, pw_own_below h2 HB3.out⟩, h3.trans (HB3.out.mono h3.size)⟩
  · have hplf : planG p = false := by simpa using hpl
    have hv : cutStuckP p = [] := by unfold cutStuckP; rw [if_neg hpl]
    rw [hv]
    rw [hplf] at HPI
    clear hv hpl hplf hr0
    go_enter Try.func31, Try.ntmps31
    go_wp2_with fail
    refine (HPI.out _ HB0.out).mono ?_
    rintro e w1 ⟨rfl, hb1⟩
    have HB1 := Aside0.mk (HB0.out.trans (hb1.mono HB0.out.size))
    have HO1 := Aside0.mk (pw_own_below HO0.out hb1)
    clear hb1
    go_wp2_with fail
    go_ret2
    exact ⟨⟨_, _, rfl, HO1.out⟩, HB1.out⟩
end Go.Proofs.Ytiehiockjlhbcaa
