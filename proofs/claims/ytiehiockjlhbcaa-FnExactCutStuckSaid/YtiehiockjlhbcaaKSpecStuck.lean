/- The reference's l3Stuck and CutStuck, walked by hand. -/
import Derived.Test.YtiehiockjlhbcaaKLetters
namespace Go.Proofs.Ytiehiockjlhbcaa
open Go.RowKit Go.Shelf Go.Proofs.YtiehiockjlhbcaaW.PrintWords Go.Proofs.YtiehiockjlhbcaaW.PrintMore
set_option linter.unusedVariables false
set_option linter.unusedSimpArgs false

/-- What l3Stuck hands back: the texts of the part, none if there is no such part. -/
def StuckT (cl : Nat → Nat → Int) (q : List ByteArray) : Option Rc → Prop
  | none => q = []
  | some R => TG q R.2.2.1 R.2.2.2 (gridOf cl R.1 R.2.1)
def StuckE (cl : Nat → Nat → Int) (o : Option Rc) (w w' : World) (e : Ending) : Prop := ∃ (q : List ByteArray) (A : Option Addr) (c n : Nat), e = .returned (.slice A n c) ∧ n = q.length ∧ q.length ≤ c ∧ Kd.C Kd.string w' A q.length q ∧ StuckT cl q o ∧ Below w.heap.size w w'
theorem nilC (W : World) : Kd.C Kd.string W none 0 [] := Kd.C_of_reads (d := ByteArray.empty) (enc := Value.string) (h1 := fun _ => rfl) ⟨rfl, Nat.zero_le _, fun h => absurd h (Nat.lt_irrefl 0)⟩

set_option maxRecDepth 100000 in
set_option maxHeartbeats 8000000 in
theorem specStuck_any {cl : Nat → Nat → Int} {boxes : List Box} {h wd : Nat} (f : Flat cl boxes h wd) : ∀ (n : Nat), n ≤ 13 → ∀ (r c ph pw : Nat) (p : List ByteArray), ph + pw < n → Whole cl h wd r c ph pw → TG p ph pw (gridOf cl r c) →
    ∀ (A : Option Addr) (cap : Nat) (w : World), Kd.C Kd.string w A p.length p → p.length ≤ cap →
    Calls Try.prog 61 #[.slice A p.length cap] w fun e w' => StuckE cl (stuckL cl boxes n (r, c, ph, pw)) w w' e := by
  intro n
  induction n with
  | zero => intro _ r c ph pw p h0; omega
  | succ n ih =>
    intro hn r c ph pw p hlt hw t A cap w hr0 hc0
    have hone := one_f t
    rw [grid_one f hw] at hone
    obtain ⟨k1, hk1⟩ := hone.ex
    have HON := Aside0.mk (fun W (hW : Below w.heap.size w W) => L3.spec_l3One.calls k1 A cap p _ W (Kd.C_below hr0 hW) hc0 hk1)
    have hcut := cut_f t
    obtain ⟨k2, hk2⟩ := hcut.ex
    have hplen := t.len
    have hhi := t.high
    have HCU := Aside0.mk (fun W (hW : Below w.heap.size w W) => L3.spec_l3Cut.calls k2 A cap p (firstG (cutsG (gridOf cl r c) ph pw).head?).1 (firstG (cutsG (gridOf cl r c) ph pw).head?).2 W (Kd.C_below hr0 hW) hc0 hk2)
    by_cases h1 : (listL boxes (natB r c ph pw) boxes.length).length = 1
    · have hv : stuckL cl boxes (n + 1) (r, c, ph, pw) = none := by unfold stuckL; rw [if_pos h1]
      rw [hv]
      rw [decide_eq_true h1] at HON
      clear hr0 h1 hv ih hone hcut hk1 hk2 hplen hhi
      go_enter Try.func61, Try.ntmps61
      go_wp2_with fail
      refine (HON.out _ (Below.refl _ _)).mono ?_
      rintro e w1 ⟨rfl, nd, rfl⟩
      go_wp2_with fail
      go_ret
      refine ⟨[], _, _, _, rfl, rfl, by simp, ?_, rfl, ?_⟩
      · first | exact nilC _ | exact Kd.C_of_reads (d := ByteArray.empty) (enc := Value.string) (h1 := fun _ => rfl) ⟨rfl, Nat.zero_le _, fun h => absurd h (Nat.lt_irrefl 0)⟩
      · repeat (first | exact Below.refl _ _ | apply pw_below_drewN | apply below_alloc)
    · rw [decide_eq_false h1] at HON
      have hcg := cuts_grid cl r c ph pw
      cases hx : (cutsG (gridOf cl r c) ph pw).head? with
      | none =>
        have hx2 : (cutsL cl r c ph pw).head? = none := by rw [hcg, List.head?_map, hx]; rfl
        have hv : stuckL cl boxes (n + 1) (r, c, ph, pw) = some (r, c, ph, pw) := by unfold stuckL; rw [if_neg h1, hx2]
        rw [hv]
        rw [hx] at HCU
        have HR := Aside0.mk hr0
        have HT := Aside0.mk t
        clear hr0 h1 hv ih hone hcut hk1 hk2 hx hx2 hcg t hplen hhi
        simp only [firstG] at HCU
        go_enter Try.func61, Try.ntmps61
        go_wp2_with fail
        refine (HON.out _ (Below.refl _ _)).mono ?_
        rintro e w1 ⟨rfl, nd, rfl⟩
        have hbd : Below w.heap.size w (w.drewN nd) := pw_below_drewN (Below.refl _ _) _
        have HBD := Aside0.mk hbd
        clear hbd
        go_wp2_with fail
        refine (HCU.out _ HBD.out).mono ?_
        rintro e w2 ⟨rfl, hb2⟩
        have HB2 := Aside0.mk (HBD.out.trans (hb2.mono HBD.out.size))
        clear hb2
        go_wp2_with fail
        go_ret
        exact ⟨p, _, _, _, rfl, rfl, hc0, Kd.C_below HR.out HB2.out, HT.out, HB2.out⟩
      | some x =>
        have hx2 : (cutsL cl r c ph pw).head? = some (moveX r c x) := by rw [hcg, List.head?_map, hx]; rfl
        have hxm := head_in hx2
        have hxg : x ∈ cutsG (gridOf cl r c) ph pw := List.mem_of_mem_head? (by rw [hx]; rfl)
        have hin := cutsG_in hxg
        obtain ⟨w1', w2'⟩ := whole_parts f hw hxm
        obtain ⟨t1, t2⟩ := parts_grid t hxg
        have i1 := (one_in hxm).less
        have i2 := (two_in hxm).less
        have hp := parts_f t x (by cases hb : x.1 <;> rw [hb] at hin <;> simp at hin ⊢ <;> omega)
        obtain ⟨k3, hk3⟩ := hp.ex
        obtain ⟨q1, q2⟩ : ∃ q1 q2, partsT p ph x = (q1, q2) := ⟨_, _, rfl⟩
        obtain ⟨q2, hq⟩ := q2
        rw [hq] at hk3 t1 t2
        have HPA := Aside0.mk (fun W (hW : Below w.heap.size w W) => L3.spec_l3Parts.calls k3 A cap p (kindI x.1) (x.2 : Int) q1 q2 W (Kd.C_below hr0 hW) hc0 hk3)
        have HI1 := Aside0.mk (ih (by omega) _ _ _ _ q1 (by omega) w1' t1)
        have HI2 := Aside0.mk (ih (by omega) _ _ _ _ q2 (by omega) w2' t2)
        have hv : stuckL cl boxes (n + 1) (r, c, ph, pw) = match stuckL cl boxes n (oneR r c ph pw (moveX r c x)) with
            | some R => some R
            | none => stuckL cl boxes n (twoR r c ph pw (moveX r c x)) := by
          conv => lhs; unfold stuckL
          rw [if_neg h1, hx2]
          rfl
        rw [hv]
        rw [hx, show firstG (some x) = (kindI x.1, (x.2 : Int)) from rfl] at HCU
        have hx0 : ((x.2 : Int) == 0) = false := by rw [beq_eq_false_iff_ne]; omega
        obtain ⟨kd, hkd⟩ : ∃ kd, kindI x.1 = kd := ⟨_, rfl⟩
        obtain ⟨xl, hxl⟩ : ∃ xl : Int, (x.2 : Int) = xl := ⟨_, rfl⟩
        rw [hkd, hxl] at HCU HPA
        rw [hxl] at hx0
        obtain ⟨o1, ho1⟩ : ∃ o, stuckL cl boxes n (oneR r c ph pw (moveX r c x)) = o := ⟨_, rfl⟩
        obtain ⟨o2, ho2⟩ : ∃ o, stuckL cl boxes n (twoR r c ph pw (moveX r c x)) = o := ⟨_, rfl⟩
        have HJ1 : Aside0 (∀ (A : Option Addr) (cap : Nat) (w : World), Kd.C Kd.string w A q1.length q1 → q1.length ≤ cap → Calls Try.prog 61 #[.slice A q1.length cap] w fun e w' => StuckE cl o1 w w' e) := ⟨by rw [← ho1]; exact HI1.out⟩
        have HJ2 : Aside0 (∀ (A : Option Addr) (cap : Nat) (w : World), Kd.C Kd.string w A q2.length q2 → q2.length ≤ cap → Calls Try.prog 61 #[.slice A q2.length cap] w fun e w' => StuckE cl o2 w w' e) := ⟨by rw [← ho2]; exact HI2.out⟩
        rw [ho1, ho2]
        clear hr0 h1 hv ih hplen hhi hone hcut hk1 hk2 hk3 hx hx2 hcg t t1 t2 hp hq hxm hxg hin w1' w2' hkd hxl ho1 ho2 HI1 HI2 i1 i2
        go_enter Try.func61, Try.ntmps61
        go_wp2_with fail
        refine (HON.out _ (Below.refl _ _)).mono ?_
        rintro e w1 ⟨rfl, nd, rfl⟩
        have hbd : Below w.heap.size w (w.drewN nd) := pw_below_drewN (Below.refl _ _) _
        have HBD := Aside0.mk hbd
        clear hbd
        go_wp2_with fail
        refine (HCU.out _ HBD.out).mono ?_
        rintro e w2 ⟨rfl, hb2⟩
        have HB2 := Aside0.mk (HBD.out.trans (hb2.mono HBD.out.size))
        clear hb2
        go_wp2_with fail
        refine (HPA.out _ HB2.out).mono ?_
        rintro e w3 ⟨v0, v1, rfl, hR0, hR1, hb3⟩
        obtain ⟨A0, c0, rfl, hl0, hC0⟩ := Kd.R_reads hR0
        obtain ⟨A1, c1, rfl, hl1, hC1⟩ := Kd.R_reads hR1
        have HB3 := Aside0.mk (HB2.out.trans (hb3.mono HB2.out.size))
        have HC0 := Aside0.mk hC0
        have HC1 := Aside0.mk hC1
        clear hb3 hR0 hR1 hC0 hC1
        go_wp2_with fail
        refine (HJ1.out _ _ _ HC0.out hl0).mono ?_
        rintro e w4 ⟨q, A4, c4, n4, rfl, hn4, hl4, hC4, hT4, hb4⟩
        have HB4 := Aside0.mk (HB3.out.trans (hb4.mono HB3.out.size))
        have HC4 := Aside0.mk hC4
        have HT4 := Aside0.mk hT4
        have HC14 := Aside0.mk (Kd.C_below HC1.out hb4)
        clear hb4 hC4
        cases o1 with
        | some R =>
          have hpos : 0 < n4 := by have h1 : TG q R.2.2.1 R.2.2.2 (gridOf cl R.1 R.2.1) := hT4; have := h1.len; have := h1.high; omega
          have HN4 := Aside0.mk hn4
          clear hT4 hn4
          go_wp2_with fail
          go_ret
          exact ⟨q, _, _, _, rfl, HN4.out, hl4, HC4.out, HT4.out, HB4.out⟩
        | none =>
          have hq0 : q = [] := hT4
          have hz : ¬ 0 < n4 := by rw [hn4, hq0]; simp
          clear hT4 hn4 hq0
          go_wp2_with fail
          refine (HJ2.out _ _ _ HC14.out hl1).mono ?_
          rintro e w5 ⟨q5, A5, c5, n5, rfl, hn5, hl5, hC5, hT5, hb5⟩
          have HB5 := Aside0.mk (HB4.out.trans (hb5.mono HB4.out.size))
          have HC5 := Aside0.mk hC5
          have HT5 := Aside0.mk hT5
          have HN5 := Aside0.mk hn5
          clear hb5 hC5 hT5 hn5
          go_wp2_with fail
          go_ret
          exact ⟨q5, _, _, _, rfl, HN5.out, hl5, HC5.out, HT5.out, HB5.out⟩
end Go.Proofs.Ytiehiockjlhbcaa
