/- Texts of this claim's, joined by a program: Letters, SpecStuck, CutStuckP, CutStuckS, CutStuck, StuckBy. -/
import Derived.Test.YtiehiockjlhbcaaKSpecTextM
import Derived.Test.YtiehiockjlhbcaaKStuck
import Derived.Test.YtiehiockjlhbcaaKListOwn
section
/- The program's lettersOf and ProofCut. -/
namespace Go.Proofs.Ytiehiockjlhbcaa
open Go.RowKit Go.Shelf Go.Proofs.YtiehiockjlhbcaaW.PrintWords Go.Proofs.YtiehiockjlhbcaaW.PrintMore
set_option linter.unusedVariables false

theorem stuck_whole {cl : Nat → Nat → Int} {boxes : List Box} {h wd : Nat} (f : Flat cl boxes h wd) : ∀ (n : Nat) (r c ph pw : Nat), Whole cl h wd r c ph pw → ∀ R, stuckL cl boxes n (r, c, ph, pw) = some R → Whole cl h wd R.1 R.2.1 R.2.2.1 R.2.2.2 := by
  intro n
  induction n with
  | zero => intro r c ph pw _ R h; cases h
  | succ n ih =>
    intro r c ph pw hw R h
    unfold stuckL at h
    split at h
    · cases h
    · split at h
      · obtain rfl := Option.some.inj h; exact hw
      · rename_i x hx
        obtain ⟨w1, w2⟩ := whole_parts f hw (head_in hx)
        split at h
        · rename_i R1 h1
          obtain rfl := Option.some.inj h
          exact ih _ _ _ _ w1 R1 h1
        · exact ih _ _ _ _ w2 R h
def stuckO (p : List ByteArray) : Option Rc := stuckL (clP p) (boxesP p) 13 (0, 0, p.length, wdP p)
/-- The rooms of the first part without a cut. -/
def stuckRooms (p : List ByteArray) : List Int := match stuckO p with
  | none => []
  | some R => listL (boxesP p) (boxR R) (boxesP p).length
def wCut : ByteArray := ⟨#[99, 117, 116, 32]⟩
def wStuck : ByteArray := ⟨#[115, 116, 117, 99, 107, 32]⟩
end Go.Proofs.Ytiehiockjlhbcaa
end
section
/- The reference's l3Stuck and CutStuck, walked by hand. -/
namespace Go.Proofs.Ytiehiockjlhbcaa
open Go.RowKit Go.Shelf Go.Proofs.YtiehiockjlhbcaaW.PrintWords Go.Proofs.YtiehiockjlhbcaaW.PrintMore
set_option linter.unusedVariables false
set_option linter.unusedSimpArgs false

/-- What l3Stuck hands back: the texts of the part, none if there is no such part. -/
def StuckT (cl : Nat → Nat → Int) (q : List ByteArray) : Option Rc → Prop
  | none => q = []
  | some R => TG q R.2.2.1 R.2.2.2 (gridOf cl R.1 R.2.1)
def StuckE (cl : Nat → Nat → Int) (o : Option Rc) (w w' : World) (e : Ending) : Prop := ∃ (q : List ByteArray) (A : Option Addr) (c n : Nat), e = .returned (.slice A n c) ∧ n = q.length ∧ q.length ≤ c ∧ Kd.C Kd.string w' A q.length q ∧ StuckT cl q o ∧ Below w.heap.size w w'
theorem nilC (W : World) : Kd.C Kd.string W none 0 [] := Kd.C_of_reads (d := ByteArray.empty) (enc := Value.string) (h1 := fun _ => rfl) ⟨rfl, Nat.zero_le _, fun h => absurd h (Nat.lt_irrefl 0)⟩

set_option maxRecDepth 100000 in
set_option maxHeartbeats 8000000 in
theorem specStuck_any {cl : Nat → Nat → Int} {boxes : List Box} {h wd : Nat} (f : Flat cl boxes h wd) : ∀ (n : Nat), n ≤ 13 → ∀ (r c ph pw : Nat) (p : List ByteArray), ph + pw < n → Whole cl h wd r c ph pw → TG p ph pw (gridOf cl r c) →
    ∀ (A : Option Addr) (cap : Nat) (w : World), Kd.C Kd.string w A p.length p → p.length ≤ cap →
    Calls Try.prog 61 #[.slice A p.length cap] w fun e w' => StuckE cl (stuckL cl boxes n (r, c, ph, pw)) w w' e := by
  intro n
  induction n with
  | zero => intro _ r c ph pw p h0; omega
  | succ n ih =>
    intro hn r c ph pw p hlt hw t A cap w hr0 hc0
    have hone := one_f t
    rw [grid_one f hw] at hone
    obtain ⟨k1, hk1⟩ := hone.ex
    have HON := Aside0.mk (fun W (hW : Below w.heap.size w W) => L3.spec_l3One.calls k1 A cap p _ W (Kd.C_below hr0 hW) hc0 hk1)
    have hcut := cut_f t
    obtain ⟨k2, hk2⟩ := hcut.ex
    have hplen := t.len
    have hhi := t.high
    have HCU := Aside0.mk (fun W (hW : Below w.heap.size w W) => L3.spec_l3Cut.calls k2 A cap p (firstG (cutsG (gridOf cl r c) ph pw).head?).1 (firstG (cutsG (gridOf cl r c) ph pw).head?).2 W (Kd.C_below hr0 hW) hc0 hk2)
    by_cases h1 : (listL boxes (natB r c ph pw) boxes.length).length = 1
    · have hv : stuckL cl boxes (n + 1) (r, c, ph, pw) = none := by unfold stuckL; rw [if_pos h1]
      rw [hv]
      rw [decide_eq_true h1] at HON
      clear hr0 h1 hv ih hone hcut hk1 hk2 hplen hhi
      go_enter Try.func61, Try.ntmps61
      go_wp2_with fail
      refine (HON.out _ (Below.refl _ _)).mono ?_
      rintro e w1 ⟨rfl, nd, rfl⟩
      go_wp2_with fail
      go_ret
      refine ⟨[], _, _, _, rfl, rfl, by simp, ?_, rfl, ?_⟩
      · first | exact nilC _ | exact Kd.C_of_reads (d := ByteArray.empty) (enc := Value.string) (h1 := fun _ => rfl) ⟨rfl, Nat.zero_le _, fun h => absurd h (Nat.lt_irrefl 0)⟩
      · repeat (first | exact Below.refl _ _ | apply pw_below_drewN | apply below_alloc)
    · rw [decide_eq_false h1] at HON
      have hcg := cuts_grid cl r c ph pw
      cases hx : (cutsG (gridOf cl r c) ph pw).head? with
      | none =>
        have hx2 : (cutsL cl r c ph pw).head? = none := by rw [hcg, List.head?_map, hx]; rfl
        have hv : stuckL cl boxes (n + 1) (r, c, ph, pw) = some (r, c, ph, pw) := by unfold stuckL; rw [if_neg h1, hx2]
        rw [hv]
        rw [hx] at HCU
        have HR := Aside0.mk hr0
        have HT := Aside0.mk t
        clear hr0 h1 hv ih hone hcut hk1 hk2 hx hx2 hcg t hplen hhi
        simp only [firstG] at HCU
        go_enter Try.func61, Try.ntmps61
        go_wp2_with fail
        refine (HON.out _ (Below.refl _ _)).mono ?_
        rintro e w1 ⟨rfl, nd, rfl⟩
        have hbd : Below w.heap.size w (w.drewN nd) := pw_below_drewN (Below.refl _ _) _
        have HBD := Aside0.mk hbd
        clear hbd
        go_wp2_with fail
        refine (HCU.out _ HBD.out).mono ?_
        rintro e w2 ⟨rfl, hb2⟩
        have HB2 := Aside0.mk (HBD.out.trans (hb2.mono HBD.out.size))
        clear hb2
        go_wp2_with fail
        go_ret
        exact ⟨p, _, _, _, rfl, rfl, hc0, Kd.C_below HR.out HB2.out, HT.out, HB2.out⟩
      | some x =>
        have hx2 : (cutsL cl r c ph pw).head? = some (moveX r c x) := by rw [hcg, List.head?_map, hx]; rfl
        have hxm := head_in hx2
        have hxg : x ∈ cutsG (gridOf cl r c) ph pw := List.mem_of_mem_head? (by rw [hx]; rfl)
        have hin := cutsG_in hxg
        obtain ⟨w1', w2'⟩ := whole_parts f hw hxm
        obtain ⟨t1, t2⟩ := parts_grid t hxg
        have i1 := (one_in hxm).less
        have i2 := (two_in hxm).less
        have hp := parts_f t x (by cases hb : x.1 <;> rw [hb] at hin <;> simp at hin ⊢ <;> omega)
        obtain ⟨k3, hk3⟩ := hp.ex
        obtain ⟨q1, q2⟩ : ∃ q1 q2, partsT p ph x = (q1, q2) := ⟨_, _, rfl⟩
        obtain ⟨q2, hq⟩ := q2
        rw [hq] at hk3 t1 t2
        have HPA := Aside0.mk (fun W (hW : Below w.heap.size w W) => L3.spec_l3Parts.calls k3 A cap p (kindI x.1) (x.2 : Int) q1 q2 W (Kd.C_below hr0 hW) hc0 hk3)
        have HI1 := Aside0.mk (ih (by omega) _ _ _ _ q1 (by omega) w1' t1)
        have HI2 := Aside0.mk (ih (by omega) _ _ _ _ q2 (by omega) w2' t2)
        have hv : stuckL cl boxes (n + 1) (r, c, ph, pw) = match stuckL cl boxes n (oneR r c ph pw (moveX r c x)) with
            | some R => some R
            | none => stuckL cl boxes n (twoR r c ph pw (moveX r c x)) := by
          conv => lhs; unfold stuckL
          rw [if_neg h1, hx2]
          rfl
        rw [hv]
        rw [hx, show firstG (some x) = (kindI x.1, (x.2 : Int)) from rfl] at HCU
        have hx0 : ((x.2 : Int) == 0) = false := by rw [beq_eq_false_iff_ne]; omega
        obtain ⟨kd, hkd⟩ : ∃ kd, kindI x.1 = kd := ⟨_, rfl⟩
        obtain ⟨xl, hxl⟩ : ∃ xl : Int, (x.2 : Int) = xl := ⟨_, rfl⟩
        rw [hkd, hxl] at HCU HPA
        rw [hxl] at hx0
        obtain ⟨o1, ho1⟩ : ∃ o, stuckL cl boxes n (oneR r c ph pw (moveX r c x)) = o := ⟨_, rfl⟩
        obtain ⟨o2, ho2⟩ : ∃ o, stuckL cl boxes n (twoR r c ph pw (moveX r c x)) = o := ⟨_, rfl⟩
        have HJ1 : Aside0 (∀ (A : Option Addr) (cap : Nat) (w : World), Kd.C Kd.string w A q1.length q1 → q1.length ≤ cap → Calls Try.prog 61 #[.slice A q1.length cap] w fun e w' => StuckE cl o1 w w' e) := ⟨by rw [← ho1]; exact HI1.out⟩
        have HJ2 : Aside0 (∀ (A : Option Addr) (cap : Nat) (w : World), Kd.C Kd.string w A q2.length q2 → q2.length ≤ cap → Calls Try.prog 61 #[.slice A q2.length cap] w fun e w' => StuckE cl o2 w w' e) := ⟨by rw [← ho2]; exact HI2.out⟩
        rw [ho1, ho2]
        clear hr0 h1 hv ih hplen hhi hone hcut hk1 hk2 hk3 hx hx2 hcg t t1 t2 hp hq hxm hxg hin w1' w2' hkd hxl ho1 ho2 HI1 HI2 i1 i2
        go_enter Try.func61, Try.ntmps61
        go_wp2_with fail
        refine (HON.out _ (Below.refl _ _)).mono ?_
        rintro e w1 ⟨rfl, nd, rfl⟩
        have hbd : Below w.heap.size w (w.drewN nd) := pw_below_drewN (Below.refl _ _) _
        have HBD := Aside0.mk hbd
        clear hbd
        go_wp2_with fail
        refine (HCU.out _ HBD.out).mono ?_
        rintro e w2 ⟨rfl, hb2⟩
        have HB2 := Aside0.mk (HBD.out.trans (hb2.mono HBD.out.size))
        clear hb2
        go_wp2_with fail
        refine (HPA.out _ HB2.out).mono ?_
        rintro e w3 ⟨v0, v1, rfl, hR0, hR1, hb3⟩
        obtain ⟨A0, c0, rfl, hl0, hC0⟩ := Kd.R_reads hR0
        obtain ⟨A1, c1, rfl, hl1, hC1⟩ := Kd.R_reads hR1
        have HB3 := Aside0.mk (HB2.out.trans (hb3.mono HB2.out.size))
        have HC0 := Aside0.mk hC0
        have HC1 := Aside0.mk hC1
        clear hb3 hR0 hR1 hC0 hC1
        go_wp2_with fail
        refine (HJ1.out _ _ _ HC0.out hl0).mono ?_
        rintro e w4 ⟨q, A4, c4, n4, rfl, hn4, hl4, hC4, hT4, hb4⟩
        have HB4 := Aside0.mk (HB3.out.trans (hb4.mono HB3.out.size))
        have HC4 := Aside0.mk hC4
        have HT4 := Aside0.mk hT4
        have HC14 := Aside0.mk (Kd.C_below HC1.out hb4)
        clear hb4 hC4
        cases o1 with
        | some R =>
          have hpos : 0 < n4 := by have h1 : TG q R.2.2.1 R.2.2.2 (gridOf cl R.1 R.2.1) := hT4; have := h1.len; have := h1.high; omega
          have HN4 := Aside0.mk hn4
          clear hT4 hn4
          go_wp2_with fail
          go_ret
          exact ⟨q, _, _, _, rfl, HN4.out, hl4, HC4.out, HT4.out, HB4.out⟩
        | none =>
          have hq0 : q = [] := hT4
          have hz : ¬ 0 < n4 := by rw [hn4, hq0]; simp
          clear hT4 hn4 hq0
          go_wp2_with fail
          refine (HJ2.out _ _ _ HC14.out hl1).mono ?_
          rintro e w5 ⟨q5, A5, c5, n5, rfl, hn5, hl5, hC5, hT5, hb5⟩
          have HB5 := Aside0.mk (HB4.out.trans (hb5.mono HB4.out.size))
          have HC5 := Aside0.mk hC5
          have HT5 := Aside0.mk hT5
          have HN5 := Aside0.mk hn5
          clear hb5 hC5 hT5 hn5
          go_wp2_with fail
          go_ret
          exact ⟨q5, _, _, _, rfl, HN5.out, hl5, HC5.out, HT5.out, HB5.out⟩
end Go.Proofs.Ytiehiockjlhbcaa
end
section
/- What the reference's CutStuck counts: plain. -/
namespace Go.Proofs.Ytiehiockjlhbcaa
open Go.RowKit Go.Shelf Go.Proofs.YtiehiockjlhbcaaW.PrintWords Go.Proofs.YtiehiockjlhbcaaW.PrintMore L2
set_option linter.unusedVariables false
set_option linter.unusedSimpArgs false

theorem TG.grid {p : List ByteArray} {h w : Nat} {G : Nat → Nat → Int} (t : TG p h w G) : TextGrid p w (fun n => G (n / w) (n % w)) := by
  have hl := t.len
  have hh := t.high
  have hw := t.wide
  have hrd : ∀ i (hi : i < p.length), rdOf ByteArray.empty p (i : Int) = p[i] := fun i hi => by
    unfold rdOf
    rw [Int.toNat_natCast, List.getD_eq_getElem?_getD, List.getElem?_eq_getElem hi]
    rfl
  refine ⟨by omega, by omega, fun i hi => ?_, fun i c hi hc => ?_, fun n hn => ?_⟩
  · have := t.size i (by omega)
    rwa [hrd i hi] at this
  · have := t.cell i c (by omega) hc
    rw [hrd i hi] at this
    rw [this, (div_row hc).1, (div_row hc).2]
  · refine t.let_ _ _ ?_ (Nat.mod_lt _ (by omega))
    rw [← hl]
    exact Nat.div_lt_of_lt_mul (by rw [Nat.mul_comm]; exact hn)
theorem cnt_pos (f : Nat → Int) (x : Int) : ∀ n, 0 < cntX f x n ↔ ∃ m, m < n ∧ f m = x := by
  intro n
  induction n with
  | zero => simp [cntX, sumTo]
  | succ n ih =>
    have e : cntX f x (n + 1) = cntX f x n + (if f n = x then 1 else 0) := rfl
    rw [e]
    constructor
    · intro h
      by_cases hx : f n = x
      · exact ⟨n, by omega, hx⟩
      · rw [if_neg hx] at h
        obtain ⟨m, h1, h2⟩ := ih.1 (by omega)
        exact ⟨m, by omega, h2⟩
    · rintro ⟨m, h1, h2⟩
      by_cases hm : m = n
      · subst hm; rw [if_pos h2]; omega
      · have := ih.2 ⟨m, by omega, h2⟩
        omega
/-- Cells of a room in a part: as the boxes say. -/
theorem cells_part {cl : Nat → Nat → Int} {boxes : List Box} {h wd : Nat} (f : Flat cl boxes h wd) {R : Rc} (hw : Whole cl h wd R.1 R.2.1 R.2.2.1 R.2.2.2) {q : List ByteArray} (t : TG q R.2.2.1 R.2.2.2 (gridOf cl R.1 R.2.1)) (k : Nat) (hk : k < boxes.length) :
    ∃ (m j : Nat), spec_l1Cells.f j q (k : Int) = some (m : Int) ∧ m ≤ 36 ∧ (0 < m ↔ bothB (boxR R) boxes[k] = boxR R) := by
  have hfew := f.few
  obtain ⟨j, hj⟩ := cells_f t.grid (k : Int) (by omega)
  refine ⟨_, j, hj, ?_, ?_⟩
  · have hle : ∀ (f : Nat → Int) x n, cntX f x n ≤ n := fun f x n => by
      induction n with
      | zero => exact Nat.le_refl _
      | succ n ih =>
        have e : cntX f x (n + 1) = cntX f x n + (if f n = x then 1 else 0) := rfl
        rw [e]; split <;> omega
    have h1 := hle (fun n => gridOf cl R.1 R.2.1 (n / R.2.2.2) (n % R.2.2.2)) (97 + (k : Int)) (q.length * R.2.2.2)
    have h2 : q.length * R.2.2.2 ≤ 6 * 6 := Nat.mul_le_mul (by rw [t.len]; exact t.high.2) t.wide.2
    omega
  · rw [cnt_pos]
    unfold boxR
    rw [room_within f hw k hk, t.len]
    have hh := t.high
    have hww := t.wide
    constructor
    · rintro ⟨m, h1, h2⟩
      have hm1 : m / R.2.2.2 < R.2.2.1 := Nat.div_lt_of_lt_mul (by rw [Nat.mul_comm]; exact h1)
      have hm2 : m % R.2.2.2 < R.2.2.2 := Nat.mod_lt _ (by omega)
      unfold gridOf at h2
      exact ⟨R.1 + m / R.2.2.2, R.2.1 + m % R.2.2.2, ⟨⟨Nat.le_add_right _ _, by omega⟩, Nat.le_add_right _ _, by omega⟩, by omega⟩
    · rintro ⟨i, j, ⟨⟨c1, c2⟩, c3, c4⟩, hc⟩
      have hj : j - R.2.1 < R.2.2.2 := by omega
      refine ⟨(i - R.1) * R.2.2.2 + (j - R.2.1), ?_, ?_⟩
      · have : (i - R.1 + 1) * R.2.2.2 ≤ R.2.2.1 * R.2.2.2 := Nat.mul_le_mul_right _ (by omega)
        rw [Nat.succ_mul] at this; omega
      · show gridOf cl R.1 R.2.1 (((i - R.1) * R.2.2.2 + (j - R.2.1)) / R.2.2.2) (((i - R.1) * R.2.2.2 + (j - R.2.1)) % R.2.2.2) = _
        rw [(div_row hj).1, (div_row hj).2]
        unfold gridOf
        rw [show R.1 + (i - R.1) = i by omega, show R.2.1 + (j - R.2.1) = j by omega, hc]
/-- The number of rooms of a plan, as the reference counts them. -/
theorem plan_rooms {p : List ByteArray} (h : planG p = true) : ∃ k, spec_l1Rooms.f k p = some ((boxesP p).length : Int) := by
  have F := planFacts h
  obtain ⟨hT, h1, h3⟩ := textGrid_of F.let_ F.shape
  have hN := named_of F.let_ F.shape F.named
  obtain ⟨k, hk⟩ := rooms_f hT
  change Named (wdP p) (fP p) (p.length * wdP p) at hN
  change spec_l1Rooms.f k p = some (rmx (fP p) (p.length * wdP p)) at hk
  rw [rmx_named hN _ (Nat.le_refl _), scan_len, ← boxesP_scan] at hk
  exact ⟨k, hk⟩
/-- What the reference has found behind k rooms. -/
def outK (boxes : List Box) : Option Rc → Nat → List Int
  | none, _ => []
  | some R, k => listL boxes (boxR R) k
theorem outK_len (boxes : List Box) (o : Option Rc) (k : Nat) : (outK boxes o k).length ≤ k := by
  cases o with
  | none => exact Nat.zero_le _
  | some R => exact listL_len _ _ _
theorem outK_rooms (p : List ByteArray) : outK (boxesP p) (stuckO p) (boxesP p).length = stuckRooms p := by
  unfold stuckRooms
  cases stuckO p <;> rfl
end Go.Proofs.Ytiehiockjlhbcaa
end
section
/- The reference's CutStuck, walked by hand. -/
namespace Go.Proofs.Ytiehiockjlhbcaa
open Go.RowKit Go.Shelf Go.Proofs.YtiehiockjlhbcaaW.PrintWords Go.Proofs.YtiehiockjlhbcaaW.PrintMore
set_option linter.unusedVariables false
set_option linter.unusedSimpArgs false

theorem add_blk (a : Addr) (n : Nat) : (a.add n).block = a.block := by unfold Addr.add; split <;> rfl
theorem C_grown {w w1 : World} {A : Option Addr} {q : List ByteArray} {row : Option Nat} (h : Kd.C Kd.string w A q.length q) (hg : w.grownBy w1 row) (hn : ∀ a, A = some a → some a.block ≠ row) : Kd.C Kd.string w1 A q.length q := by
  have hr := Kd.reads_of_C (enc := Value.string) (d := ByteArray.empty) (h1 := fun _ => rfl) h
  refine Kd.C_of_reads (d := ByteArray.empty) (enc := Value.string) (h1 := fun _ => rfl) ⟨hr.1, hr.2.1, fun h0 => ?_⟩
  obtain ⟨ad, hA, hc⟩ := hr.2.2 h0
  exact ⟨ad, hA, fun j hj => hg.cell (hc j hj) (by rw [add_blk]; exact hn ad hA)⟩
theorem C_block {w : World} {A : Option Addr} {q : List ByteArray} (h : Kd.C Kd.string w A q.length q) (hq : 0 < q.length) {b : Nat} {t : TypeId} {fr : Nat × Nat} (hb : w.heap[b]? = some (.cells #[] t fr)) : ∀ a, A = some a → a.block < w.heap.size ∧ a.block ≠ b := by
  have hr := Kd.reads_of_C (enc := Value.string) (d := ByteArray.empty) (h1 := fun _ => rfl) h
  obtain ⟨ad, hA, hc⟩ := hr.2.2 hq
  intro a ha
  rw [hA] at ha
  injection ha with ha
  subst ha
  have := hc 0 hq
  refine ⟨?_, fun e => ?_⟩
  · have := World.block_lt_of_cell? w _ this
    rwa [add_blk] at this
  · unfold World.cell? at this
    rw [add_blk, e, hb] at this
    simp at this
/-- What CutStuck hands back: the rooms, and whether there are any. -/
def cutStuckP (p : List ByteArray) : List Int := if planG p then stuckRooms p else []
set_option maxRecDepth 100000 in
set_option maxHeartbeats 8000000 in
theorem specCutStuck_any (A : Option Addr) (cap : Nat) (p : List ByteArray) (hp : SmallP p) (w : World) (hr0 : Kd.C Kd.string w A p.length p) (hc0 : p.length ≤ cap) :
    Calls Try.prog 31 #[.slice A p.length cap] w fun e w' => (∃ A' c', e = .returned (.tuple #[.slice A' (cutStuckP p).length c', .bool (decide (0 < (cutStuckP p).length))]) ∧ w'.ownsRow w.heap.size 3 1 (.slice A' (cutStuckP p).length c') (cutStuckP p).length (nums .i64 (cutStuckP p))) ∧ Below w.heap.size w w' := by
  have HPI := Aside0.mk (fun W (hW : Below w.heap.size w W) => spec_PlanIn.calls A cap p (planG p) W (Kd.C_below hr0 hW) hc0 (by unfold spec_PlanIn.f; rw [if_pos hp]))
  have HB0 : Aside0 (Below w.heap.size w (w.alloc (.cells #[] 3))) := ⟨(Below.refl _ _).alloc (Nat.le_refl _) _⟩
  have HO0 : Aside0 ((w.alloc (.cells #[] 3)).ownsRow w.heap.size 3 1 (.slice (some ⟨w.heap.size, 0, none⟩) 0 0) 0 (nums .i64 [])) := ⟨own_lit w w.heap.size 3 .i64 [] (Nat.le_refl _) (by simp)⟩
  by_cases hpl : planG p = true
  · have hv : cutStuckP p = stuckRooms p := by unfold cutStuckP; rw [if_pos hpl]
    rw [hv, ← outK_rooms p]
    rw [hpl] at HPI
    have f := planFlat hpl
    have hhi := f.high
    have hwi := f.wide
    have hfew := f.few
    have F := Aside0.mk f
    have HST := Aside0.mk (fun W (hW : Below w.heap.size w W) => specStuck_any f 13 (by omega) 0 0 p.length (wdP p) p (by omega) f.whole (planTG hpl) A cap W (Kd.C_below hr0 hW) hc0)
    obtain ⟨kr, hkr⟩ := plan_rooms hpl
    have HRM := Aside0.mk (fun W (hW : Below w.heap.size w W) => L2.spec_l1Rooms.calls kr A cap p _ W (Kd.C_below hr0 hW) hc0 hkr)
    have HWW := Aside0.mk (fun R hR => stuck_whole f 13 0 0 p.length (wdP p) f.whole R hR)
    change Aside0 (∀ R, stuckO p = some R → _) at HWW
    change Aside0 (∀ W (hW : Below w.heap.size w W), Calls Try.prog 61 #[.slice A p.length cap] W fun e w' => StuckE (clP p) (stuckO p) W w' e) at HST
    obtain ⟨o, ho⟩ : ∃ o, stuckO p = o := ⟨_, rfl⟩
    rw [ho] at HWW HST
    rw [ho]
    obtain ⟨cl, hcl⟩ : ∃ cl, clP p = cl := ⟨_, rfl⟩
    obtain ⟨boxes, hbx⟩ : ∃ b, boxesP p = b := ⟨_, rfl⟩
    rw [hcl] at HWW HST F
    rw [hbx] at HRM F hfew
    rw [hbx]
    clear hv hkr hpl f hcl hbx ho hr0
    go_enter Try.func31, Try.ntmps31
    go_wp2_with fail
    refine (HPI.out _ HB0.out).mono ?_
    rintro e w1 ⟨rfl, hb1⟩
    have HB1 := Aside0.mk (HB0.out.trans (hb1.mono HB0.out.size))
    have HO1 := Aside0.mk (pw_own_below HO0.out hb1)
    have HE1 : Aside0 (w1.heap[w.heap.size]? = some (.cells #[] 3 (0, 0))) := ⟨(hb1.block _ (by simp)).trans (heap_alloc_new w _)⟩
    have HS1 : Aside0 (w.heap.size < w1.heap.size) := ⟨by have := hb1.size; simp at this; omega⟩
    clear hb1
    go_wp2_with fail
    refine (HST.out _ HB1.out).mono ?_
    rintro e w2 ⟨q, A2, c2, n2, rfl, rfl, hl2, hC2, hT2, hb2⟩
    have HB2 := Aside0.mk (HB1.out.trans (hb2.mono HB1.out.size))
    have HO2 := Aside0.mk (pw_own_below HO1.out hb2)
    have HE2 : Aside0 (w2.heap[w.heap.size]? = some (.cells #[] 3 (0, 0))) := ⟨(hb2.block _ HS1.out).trans HE1.out⟩
    have HS2 : Aside0 (w.heap.size < w2.heap.size) := ⟨by have := hb2.size; have := HS1.out; omega⟩
    have HC2 := Aside0.mk hC2
    have HT2 := Aside0.mk hT2
    have hq : q.length ≤ 6 ∧ (o = none ↔ q.length = 0) := by
      cases o with
      | none =>
        have hT2 : q = [] := hT2
        rw [hT2]; simp
      | some R =>
        have t : TG q R.2.2.1 R.2.2.2 (gridOf cl R.1 R.2.1) := hT2
        have h1 := t.len
        have h2 := t.high
        exact ⟨by omega, fun h => (by cases h), fun h => (by omega)⟩
    have HQ := Aside0.mk hq.2
    have HBK : Aside0 (0 < q.length → ∀ a, A2 = some a → a.block < w2.heap.size ∧ a.block ≠ w.heap.size) := ⟨fun h => C_block hC2 h HE2.out⟩
    clear hb2 hC2 hT2 hq
    go_wp2_with fail
    go_loopw [4, 6] (fun v i wr => ∃ (k n c : Nat) (A : Option Addr), i = .int .i64 k ∧ k ≤ boxes.length ∧ v = .slice A n c ∧ Aside0 (n = (outK boxes o k).length ∧ wr.ownsRow w.heap.size 3 1 (.slice A n c) n (nums .i64 (outK boxes o k)) ∧ Below w.heap.size w wr ∧ w2.heap.size ≤ wr.heap.size ∧ Kd.C Kd.string wr A2 q.length q ∧ ∀ a, A = some a → a.block = w.heap.size ∨ w2.heap.size ≤ a.block)) (fun _ i _ => boxes.length - (intOf i).toNat)
    case atStart =>
      refine ⟨0, 0, 0, some ⟨w.heap.size, 0, none⟩, rfl, Nat.zero_le _, rfl, ⟨?_, ?_, HB2.out, Nat.le_refl _, HC2.out, fun a ha => ?_⟩⟩
      · cases o <;> rfl
      · have : outK boxes o 0 = [] := by cases o <;> rfl
        rw [this]; exact HO2.out
      · injection ha with ha; exact .inl (by rw [← ha])
    case round =>
      obtain ⟨k, n, c, A1, rfl, hk, rfl, HD⟩ := hrel
      go_wp2_with fail
      refine (HRM.out _ HD.out.2.2.1).mono ?_
      rintro e w3 ⟨rfl, hb3⟩
      have HB3 := Aside0.mk hb3
      clear hb3
      by_cases hlt : (k : Int) < (boxes.length : Int)
      · have hkl : k < boxes.length := by omega
        cases o with
        | none =>
          have hz : ¬ 0 < q.length := by have := HQ.out.1 rfl; omega
          go_wp2_with fail
          refine ⟨⟨k + 1, n, c, A1, by push_cast; rfl, by omega, rfl, ⟨HD.out.1, pw_own_below HD.out.2.1 HB3.out, HD.out.2.2.1.trans (HB3.out.mono HD.out.2.2.1.size), Nat.le_trans HD.out.2.2.2.1 HB3.out.size, Kd.C_below HD.out.2.2.2.2.1 HB3.out, HD.out.2.2.2.2.2⟩⟩, by simp [intOf]; omega⟩
        | some R =>
          have t : TG q R.2.2.1 R.2.2.2 (gridOf cl R.1 R.2.1) := HT2.out
          have hql : 0 < q.length := by have h1 := t.len; have h2 := t.high; omega
          obtain ⟨m, j, hj, hm, hmm⟩ := cells_part F.out (HWW.out R rfl) t k hkl
          have HCL := Aside0.mk (L2.spec_l1Cells.calls j A2 c2 q (k : Int) m w3 (Kd.C_below HD.out.2.2.2.2.1 HB3.out) hl2 hj)
          have HMM := Aside0.mk hmm
          clear hj hmm t
          by_cases hm0 : 0 < m
          · have hyes := listL_yes (b := boxR R) hkl (HMM.out.1 hm0)
            have HYES := Aside0.mk hyes
            clear hyes
            go_wp2_with (first | (go_at_call 62; refine HCL.out.mono ?_; rintro e w4 ⟨rfl, nd, rfl⟩; have HB4 : Aside0 (Below w.heap.size w (w3.drewN nd)) := ⟨pw_below_drewN (HD.out.2.2.1.trans (HB3.out.mono HD.out.2.2.1.size)) _⟩) | (at_builtin; refine print_append_num (w0 := w) w.heap.size rfl (.tmp 29) (.tmp 31) 34 3 .i64 8 rfl Try.underlying34 (by kernel_rfl) (by omega) _ (outK boxes (some R) k) (k : Int) rfl rfl ?k1 ?k4 ?k3 ?k2 ?_; (case k1 => rw [← HD.out.1]; exact pw_own_below (pw_own_below HD.out.2.1 HB3.out) (pw_below_drewN (Below.refl _ _) _)); (case k4 => exact HB4.out); (case k3 => exact HB4.out.size); (case k2 => have := outK_len boxes (some R) k; omega); intro v1 w5 ho hB hg hat; have HO5 := Aside0.mk ho; have HB5 := Aside0.mk hB; have HG5 := Aside0.mk hg; have HAT := Aside0.mk hat; clear ho hB hg hat))
            obtain ⟨A5, c5, rfl⟩ := own_slice HO5.out
            have hrow : outK boxes (some R) (k + 1) = outK boxes (some R) k ++ [(k : Int)] := HYES.out
            have hsz : w2.heap.size ≤ (w3.drewN nd).heap.size := Nat.le_trans HD.out.2.2.2.1 HB3.out.size
            refine ⟨⟨k + 1, (outK boxes (some R) k ++ [(k : Int)]).length, c5, A5, by push_cast; rfl, by omega, rfl, ⟨by rw [hrow], by rw [hrow]; exact HO5.out, HB5.out, Nat.le_trans hsz HG5.out.size, ?_, ?_⟩⟩, by simp [intOf]; omega⟩
            · refine C_grown (Kd.C_below (Kd.C_below HD.out.2.2.2.2.1 HB3.out) (pw_below_drewN (Below.refl _ _) nd)) HG5.out ?_
              intro a ha e
              have h1 := HBK.out hql a ha
              cases A1 with
              | none => cases e
              | some a1 =>
                have e1 : a.block = a1.block := Option.some.inj e
                rcases HD.out.2.2.2.2.2 a1 rfl with h2 | h2 <;> omega
            · intro a ha
              subst ha
              rcases HAT.out with h | ⟨b, h, hb⟩
              · cases A1 with
                | none => cases h
                | some a1 =>
                  have e1 : a.block = a1.block := Option.some.inj h
                  rw [e1]; exact HD.out.2.2.2.2.2 a1 rfl
              · have e1 : a.block = b := Option.some.inj h
                right; omega
          · have hno := listL_no (b := boxR R) hkl (fun e => hm0 (HMM.out.2 e))
            have HNO := Aside0.mk hno
            clear hno
            go_wp2_with (first | (go_at_call 62; refine HCL.out.mono ?_; rintro e w4 ⟨rfl, nd, rfl⟩))
            have HBD : Below wr.heap.size wr (w3.drewN nd) := pw_below_drewN HB3.out _
            refine ⟨⟨k + 1, n, c, A1, by push_cast; rfl, by omega, rfl, ⟨by show n = (listL boxes (boxR R) (k + 1)).length; rw [HNO.out]; exact HD.out.1, by show World.ownsRow _ _ _ _ _ _ (nums .i64 (listL boxes (boxR R) (k + 1))); rw [HNO.out]; exact pw_own_below HD.out.2.1 HBD, HD.out.2.2.1.trans (HBD.mono HD.out.2.2.1.size), Nat.le_trans HD.out.2.2.2.1 HBD.size, Kd.C_below HD.out.2.2.2.2.1 HBD, HD.out.2.2.2.2.2⟩⟩, by simp [intOf]; omega⟩
      · have hke : k = boxes.length := by omega
        subst hke
        go_wp2_with fail
        go_ret2
        obtain ⟨h1, h2, h3, _⟩ := HD.out
        subst h1
        exact ⟨⟨A1, c, rfl, pw_own_below h2 HB3.out⟩, h3.trans (HB3.out.mono h3.size)⟩
  · have hplf : planG p = false := by simpa using hpl
    have hv : cutStuckP p = [] := by unfold cutStuckP; rw [if_neg hpl]
    rw [hv]
    rw [hplf] at HPI
    clear hv hpl hplf hr0
    go_enter Try.func31, Try.ntmps31
    go_wp2_with fail
    refine (HPI.out _ HB0.out).mono ?_
    rintro e w1 ⟨rfl, hb1⟩
    have HB1 := Aside0.mk (HB0.out.trans (hb1.mono HB0.out.size))
    have HO1 := Aside0.mk (pw_own_below HO0.out hb1)
    clear hb1
    go_wp2_with fail
    go_ret2
    exact ⟨⟨_, _, rfl, HO1.out⟩, HB1.out⟩
end Go.Proofs.Ytiehiockjlhbcaa
end
section
/- The program's CutStuck, and the names that a printed law takes. -/
namespace Go.Proofs.Ytiehiockjlhbcaa
open Go.RowKit Go.Shelf Go.Proofs.YtiehiockjlhbcaaW.PrintWords Go.Proofs.YtiehiockjlhbcaaW.PrintMore
set_option linter.unusedVariables false
set_option linter.unusedSimpArgs false

/-- A part of whole rooms has a room. -/
theorem list_pos {cl : Nat → Nat → Int} {boxes : List Box} {h wd r c ph pw : Nat} (f : Flat cl boxes h wd) (hw : Whole cl h wd r c ph pw) : 0 < (listL boxes (natB r c ph pw) boxes.length).length := by
  have hs := hw.some
  have := (listL_iff f hw (cl r c)).2 ⟨r, c, ⟨⟨Nat.le_refl _, by omega⟩, Nat.le_refl _, by omega⟩, rfl⟩
  exact List.length_pos_of_mem this
set_option maxRecDepth 100000 in
set_option maxHeartbeats 8000000 in
theorem cutStuck_any (A : Option Addr) (cap : Nat) (p : List ByteArray) (hp : SmallP p) (w : World) (hr0 : Kd.C Kd.string w A p.length p) (hc0 : p.length ≤ cap) :
    Calls Try.prog 30 #[.slice A p.length cap] w fun e w' => (∃ A' c', e = .returned (.tuple #[.slice A' (cutStuckP p).length c', .bool (decide (0 < (cutStuckP p).length))]) ∧ w'.ownsRow w.heap.size 3 1 (.slice A' (cutStuckP p).length c') (cutStuckP p).length (nums .i64 (cutStuckP p))) ∧ Below w.heap.size w w' := by
  have HFL := floorOf_any A cap p hp.1 hp.2 w hr0 hc0
  clear hr0
  go_enter Try.func30, Try.ntmps30
  go_wp2_with fail
  refine HFL.mono ?_
  rintro e w1 ⟨hb1, ⟨hpl, fb, base, rfl, hbase, hfl⟩ | ⟨hpl, o, rfl⟩⟩
  · have HB1 := Aside0.mk hb1
    have F := Aside0.mk (planFlat hpl)
    have hR := hfl.reads
    have hh := (planFlat hpl).high
    have hw := (planFlat hpl).wide
    have hv : cutStuckP p = stuckRooms p := by unfold cutStuckP; rw [if_pos hpl]
    have HWH := Aside0.mk (fun W (hW : Below w1.heap.size w1 W) => whole_any fb p.length (wdP p) (clP p) (boxesP p) W (hR.below hW) (by omega) (by omega))
    have HSK := Aside0.mk (fun W (hW : Below w1.heap.size w1 W) => stuck_any fb p.length (wdP p) (clP p) (boxesP p) hh.2 hw.2 F.out.boxIn F.out.few 13 (by omega) 0 0 p.length (wdP p) (by omega) (by omega) (by omega) W (hR.below hW))
    have HRR := Aside0.mk hR
    have hwh := stuck_whole F.out 13 0 0 p.length (wdP p) F.out.whole
    cases hRo : stuckL (clP p) (boxesP p) 13 (0, 0, p.length, wdP p) with
    | none =>
      have hval : stuckRooms p = [] := by unfold stuckRooms stuckO; rw [hRo]
      rw [hval] at hv
      have HV := Aside0.mk hv
      rw [hRo] at HSK
      clear hb1 hpl hfl hR hv hwh hRo hval
      go_wp2_with fail
      refine (HWH.out _ (Below.refl _ _)).mono ?_
      rintro e w2 ⟨rfl, hb2⟩
      have HB2 := Aside0.mk hb2
      clear hb2
      go_wp2_with fail
      refine (HSK.out _ HB2.out).mono ?_
      rintro e w3 ⟨rfl, hb3⟩
      have HB3 := Aside0.mk (HB2.out.trans (hb3.mono HB2.out.size))
      clear hb3
      simp only [stuckV, stuckC, noPart, Option.isSome_none]
      go_wp2_with fail
      go_ret2
      rw [HV.out]
      exact ⟨⟨_, _, rfl, World.ownsRow_nil _ _ _ _⟩, HB1.out.trans ((HB3.out.alloc HB3.out.size _).mono HB1.out.size)⟩
    | some R =>
      have hwR := hwh R hRo
      have hrow := hwR.row
      have hcol := hwR.col
      have hval : stuckRooms p = listL (boxesP p) (boxR R) (boxesP p).length := by unfold stuckRooms stuckO; rw [hRo]
      have hpos : 0 < (listL (boxesP p) (boxR R) (boxesP p).length).length := list_pos F.out hwR
      rw [hval] at hv
      have HLI := Aside0.mk (fun W (hW : Below w1.heap.size w1 W) => list_own fb p.length (wdP p) (clP p) (boxesP p) W (HRR.out.below hW) (boxR R) (boxIn_nat (by omega) (by omega) (by omega) (by omega)) F.out.boxIn (by have := F.out.few; omega))
      rw [hRo] at HSK
      obtain ⟨L, hL⟩ : ∃ L, listL (boxesP p) (boxR R) (boxesP p).length = L := ⟨_, rfl⟩
      rw [hL] at HLI hpos hv
      have HV := Aside0.mk hv
      have HP := Aside0.mk (decide_eq_true hpos)
      clear hb1 hpl hfl hR hv hwh hRo hval hwR hrow hcol hL hpos
      go_wp2_with fail
      refine (HWH.out _ (Below.refl _ _)).mono ?_
      rintro e w2 ⟨rfl, hb2⟩
      have HB2 := Aside0.mk hb2
      clear hb2
      go_wp2_with fail
      refine (HSK.out _ HB2.out).mono ?_
      rintro e w3 ⟨rfl, hb3⟩
      have HB3 := Aside0.mk (HB2.out.trans (hb3.mono HB2.out.size))
      clear hb3
      simp only [stuckV, stuckC, partCells, Option.isSome_some]
      go_wp2_with fail
      unfold partV at HLI
      have hb6 := HB3.out.alloc HB3.out.size (.cells #[.pointer (some ⟨fb, 0, none⟩), .int .i64 (boxR R).1, .int .i64 (boxR R).2.1, .int .i64 (boxR R).2.2.1, .int .i64 (boxR R).2.2.2] 52)
      refine (HLI.out _ hb6).mono ?_
      rintro e w7 ⟨⟨A2, c2, rfl, ho7⟩, hb7⟩
      have HB7 := Aside0.mk (hb6.trans (hb7.mono hb6.size))
      have HO7 := Aside0.mk ho7
      have HS7 : Aside0 (w.heap.size ≤ (w3.alloc (.cells #[.pointer (some ⟨fb, 0, none⟩), .int .i64 (boxR R).1, .int .i64 (boxR R).2.1, .int .i64 (boxR R).2.2.1, .int .i64 (boxR R).2.2.2] 52)).heap.size) := ⟨Nat.le_trans HB1.out.size hb6.size⟩
      clear hb6 hb7 ho7
      go_wp2_with fail
      go_ret2
      rw [HV.out, HP.out]
      exact ⟨⟨_, _, rfl, own_weaken HO7.out HS7.out⟩, HB1.out.trans (HB7.out.mono HB1.out.size)⟩
  · have HB1 := Aside0.mk hb1
    have hv : cutStuckP p = [] := by unfold cutStuckP; rw [hpl]; rfl
    have HV := Aside0.mk hv
    clear hb1 hpl hv
    go_wp2_with fail
    go_ret2
    rw [HV.out]
    exact ⟨⟨_, _, rfl, World.ownsRow_nil _ _ _ _⟩, HB1.out⟩

/-! The names that a printed law takes. -/
def cutStuckV (p : List ByteArray) : List Int × Bool := (cutStuckP p, decide (0 < (cutStuckP p).length))
def impl_CutStuck.f (l0 : List ByteArray) : Option (List Int × Bool) := if SmallP l0 then some (cutStuckV l0) else none
theorem impl_CutStuck.calls (A0 : Option Addr) (c0 : Nat) (l0 : List ByteArray) (r1 : List Int) (r2 : Bool) (w : World) (hr0 : Kd.C Kd.string w A0 l0.length l0) (hc0 : l0.length ≤ c0) (h : impl_CutStuck.f l0 = some (r1, r2)) :
    Calls Try.prog 30 #[.slice A0 l0.length c0] w fun e w' => ∃ v0_ : Value, e = .returned (.tuple #[v0_, .bool r2]) ∧ Kd.R (Kd.int .i64) 3 w' w.heap.size (fun _ => True) v0_ r1 ∧ Below w.heap.size w w' := by
  unfold impl_CutStuck.f at h
  split at h
  · rename_i hb
    injection h with h
    unfold cutStuckV at h
    injection h with h1 h2
    refine (cutStuck_any A0 c0 l0 hb w hr0 hc0).mono fun e w' ⟨⟨A', c', he, ho⟩, hbw⟩ => ?_
    rw [h1] at he ho
    rw [h1] at h2
    rw [h2] at he
    exact ⟨_, he, Kd.R_of_own ho (fun _ _ => trivial), hbw⟩
  · cases h
def spec_CutStuck.f (l0 : List ByteArray) : Option (List Int × Bool) := if SmallP l0 then some (cutStuckV l0) else none
theorem spec_CutStuck.calls (A0 : Option Addr) (c0 : Nat) (l0 : List ByteArray) (r1 : List Int) (r2 : Bool) (w : World) (hr0 : Kd.C Kd.string w A0 l0.length l0) (hc0 : l0.length ≤ c0) (h : spec_CutStuck.f l0 = some (r1, r2)) :
    Calls Try.prog 31 #[.slice A0 l0.length c0] w fun e w' => ∃ v0_ : Value, e = .returned (.tuple #[v0_, .bool r2]) ∧ Kd.R (Kd.int .i64) 3 w' w.heap.size (fun _ => True) v0_ r1 ∧ Below w.heap.size w w' := by
  unfold spec_CutStuck.f at h
  split at h
  · rename_i hb
    injection h with h
    unfold cutStuckV at h
    injection h with h1 h2
    refine (specCutStuck_any A0 c0 l0 hb w hr0 hc0).mono fun e w' ⟨⟨A', c', he, ho⟩, hbw⟩ => ?_
    rw [h1] at he ho
    rw [h1] at h2
    rw [h2] at he
    exact ⟨_, he, Kd.R_of_own ho (fun _ _ => trivial), hbw⟩
  · cases h
end Go.Proofs.Ytiehiockjlhbcaa
end
section
/- The program's stuckBy. -/
namespace Go.Proofs.Ytiehiockjlhbcaa
open Go.RowKit Go.Shelf Go.Proofs.YtiehiockjlhbcaaW.PrintWords Go.Proofs.YtiehiockjlhbcaaW.PrintMore
set_option linter.unusedVariables false
set_option linter.unusedSimpArgs false

/-- A box inside of a floor. -/
def BoxFl (h wd : Nat) (B : Box) : Prop := ∃ r c ph pw : Nat, B = natB r c ph pw ∧ 1 ≤ ph ∧ 1 ≤ pw ∧ r + ph ≤ h ∧ c + pw ≤ wd
/-- Four cells of a block of five are set. -/
theorem set4 {w : World} {b : Nat} {T : TypeId} {v0 v1 v2 v3 v4 : Value} (h : w.heap[b]? = some (.cells #[v0, v1, v2, v3, v4] T (0, 0))) (u1 u2 u3 u4 : Value) (W : World) (hW : W = (((w.setCell ⟨b, 1, none⟩ u1).setCell ⟨b, 2, none⟩ u2).setCell ⟨b, 3, none⟩ u3).setCell ⟨b, 4, none⟩ u4) :
    W.heap[b]? = some (.cells #[v0, u1, u2, u3, u4] T (0, 0)) ∧ (∀ k, k ≠ b → W.heap[k]? = w.heap[k]?) ∧ W.heap.size = w.heap.size ∧ ∀ B a, B ≤ b → Below B a w → Below B a W := by
  subst hW
  refine ⟨?_, fun k hk => ?_, by simp [World.setCell], fun B a hB hb => ?_⟩
  · have := Go.Joins.block_setCell (i := 4) (Go.Joins.block_setCell (i := 3) (Go.Joins.block_setCell (i := 2) (Go.Joins.block_setCell (i := 1) h u1) u2) u3) u4
    simpa using this
  · iterate 4 rw [Below.heap_setCell _ _ _ _ (by simpa using hk)]
  · iterate 4 refine Below.setCell ?_ (by simpa using hB) _
    exact hb
theorem RI_move {w W : World} {g n : Nat} {xs : List Int} (h : ReadsInt w .u8 (some ⟨g, 0, none⟩) n xs) (hg : W.heap[g]? = w.heap[g]?) : ReadsInt W .u8 (some ⟨g, 0, none⟩) n xs :=
  ⟨h.1, h.2.1, fun h0 => by
    obtain ⟨ad, e, hc⟩ := h.2.2 h0
    injection e with e
    subst e
    exact ⟨_, rfl, fun j hj => (World.cell?_of_block (by rw [show ((⟨g, 0, none⟩ : Addr).add j).block = g by unfold Addr.add; split <;> rfl]; exact hg)).trans (hc j hj)⟩⟩
theorem bothFl {h wd : Nat} {A B : Box} (ha : BoxFl h wd A) (hb : BoxFl h wd B) : BoxFl h wd (bothB A B) := by
  obtain ⟨a1, a2, a3, a4, rfl, a5, a6, a7, a8⟩ := ha
  obtain ⟨b1, b2, b3, b4, rfl, b5, b6, b7, b8⟩ := hb
  refine ⟨min a1 b1, min a2 b2, max (a1 + a3) (b1 + b3) - min a1 b1, max (a2 + a4) (b2 + b4) - min a2 b2, ?_, by omega, by omega, by omega, by omega⟩
  unfold bothB natB
  simp only [Prod.mk.injEq]
  omega
theorem BoxFl.in_ {h wd : Nat} {A : Box} (ha : BoxFl h wd A) (hh : h ≤ 6) (hw : wd ≤ 6) : BoxIn A ∧ 1 ≤ areaB A ∧ areaB A ≤ 36 := by
  obtain ⟨a1, a2, a3, a4, rfl, a5, a6, a7, a8⟩ := ha
  refine ⟨?_, ?_⟩
  · unfold BoxIn natB
    simp only
    omega
  · show 1 ≤ ((a3 : Int) * (a4 : Int)) ∧ ((a3 : Int) * (a4 : Int)) ≤ 36
    have h1 : a3 * a4 ≤ 6 * 6 := Nat.mul_le_mul (by omega) (by omega)
    have h2 : 1 * 1 ≤ a3 * a4 := Nat.mul_le_mul a5 a6
    rw [← Int.natCast_mul]
    omega
set_option maxHeartbeats 4000000 in
theorem has_any (fb h wd : Nat) (cl : Nat → Nat → Int) (boxes : List Box) (w : World) (hf : FloorR w fb h wd cl boxes) (hn : boxes.length ≤ 1000) (k : Int) :
    Calls Try.prog 112 #[.pointer (some ⟨fb, 0, none⟩), .int .i64 k] w fun e w' => e = .returned (.bool (decide (0 ≤ k ∧ k < boxes.length))) ∧ Below w.heap.size w w' := by
  obtain ⟨g, rb, RA, rc, h1, h2, h3, h4, h5, h6⟩ := hf
  clear h3 h5 h6
  by_cases c1 : 0 ≤ k
  · by_cases c2 : k < (boxes.length : Int)
    · rw [decide_eq_true ⟨c1, c2⟩]
      go_enter Try.func112, Try.ntmps112
      go_wp2_with fail
      go_ret
      exact ⟨rfl, Below.refl _ _⟩
    · rw [decide_eq_false (fun h => c2 h.2)]
      go_enter Try.func112, Try.ntmps112
      go_wp2_with fail
      go_ret
      exact ⟨rfl, Below.refl _ _⟩
  · rw [decide_eq_false (fun h => c1 h.1)]
    go_enter Try.func112, Try.ntmps112
    go_wp2_with fail
    go_ret
    exact ⟨rfl, Below.refl _ _⟩
/-- A box of the floor, and its cells. -/
def boxAt (boxes : List Box) (k : Int) : Box := boxes.getD k.toNat (0, 0, 0, 0)
/-- What stuckBy finds from letter i on, d letters to go: the rectangle so far, the cells so far. -/
def stuckR (boxes : List Box) (cut : Box → Bool) (b : ByteArray) : Nat → Nat → Box → Int → Bool
  | 0, _, R, cells => decide (cells = areaB R) && !cut R
  | d + 1, i, R, cells =>
    if (decide (0 ≤ bt b (i : Int) - 97 ∧ bt b (i : Int) - 97 < boxes.length) && !(decide (0 < i) && decide (bt b (i : Int) ≤ bt b ((i : Int) - 1)))) = true then
      stuckR boxes cut b d (i + 1) (bothB (if i = 0 then boxAt boxes (bt b (i : Int) - 97) else R) (boxAt boxes (bt b (i : Int) - 97))) (cells + areaB (boxAt boxes (bt b (i : Int) - 97)))
    else false
theorem stuckR_step (boxes : List Box) (cut : Box → Bool) (b : ByteArray) {n k : Nat} (hk : k < n) (R : Box) (C : Int) : stuckR boxes cut b (n - k) k R C =
    if (decide (0 ≤ bt b (k : Int) - 97 ∧ bt b (k : Int) - 97 < boxes.length) && !(decide (0 < k) && decide (bt b (k : Int) ≤ bt b ((k : Int) - 1)))) = true then
      stuckR boxes cut b (n - (k + 1)) (k + 1) (bothB (if k = 0 then boxAt boxes (bt b (k : Int) - 97) else R) (boxAt boxes (bt b (k : Int) - 97))) (C + areaB (boxAt boxes (bt b (k : Int) - 97)))
    else false := by
  rw [show n - k = (n - (k + 1)) + 1 by omega]
  rfl
def cutB (cl : Nat → Nat → Int) (R : Box) : Bool := ((cutsL cl R.1.toNat R.2.1.toNat R.2.2.1.toNat R.2.2.2.toNat).head?).isSome
def stuckByP (cl : Nat → Nat → Int) (boxes : List Box) (b : ByteArray) : Bool := if b.size < 2 then false else stuckR boxes (cutB cl) b b.size 0 (0, 0, 0, 0) 0
end Go.Proofs.Ytiehiockjlhbcaa
end
