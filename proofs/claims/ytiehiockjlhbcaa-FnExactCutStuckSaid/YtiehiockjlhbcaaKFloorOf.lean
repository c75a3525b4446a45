/- The program's floorOf: a plan that is read, or none. Conditions: few texts of few bytes. -/
import Derived.Test.YtiehiockjlhbcaaKTextG
namespace Go.Proofs.Ytiehiockjlhbcaa
open Go.RowKit Go.Shelf Go.Proofs.YtiehiockjlhbcaaW.PrintWords Go.Proofs.YtiehiockjlhbcaaW.PrintMore
set_option linter.unusedVariables false

theorem toList_data (s : ByteArray) : s.toList = s.data.toList := by
  have key : ∀ (n i : Nat) (r : List UInt8), s.size - i = n → ByteArray.toList.loop s i r = r.reverse ++ s.data.toList.drop i := by
    intro n
    induction n with
    | zero =>
      intro i r h
      unfold ByteArray.toList.loop
      have : ¬ i < s.size := by omega
      rw [if_neg this, List.drop_of_length_le (by rw [Array.length_toList]; show s.size ≤ i; omega), List.append_nil]
    | succ n ih =>
      intro i r h
      unfold ByteArray.toList.loop
      have hi : i < s.size := by omega
      rw [if_pos hi, ih (i + 1) _ (by omega)]
      have hl : i < s.data.toList.length := by rw [Array.length_toList]; exact hi
      rw [List.reverse_cons, List.append_assoc, ← List.getElem_cons_drop hl]
      congr 1
      simp [ByteArray.get!]
      rw [getElem!_pos _ _ (by exact hi)]
  unfold ByteArray.toList
  rw [key s.size 0 [] rfl]
  simp
theorem toList_ne {s t : ByteArray} (h : ¬ s = t) : (s.toList == t.toList) = false := by
  rw [beq_eq_false_iff_ne, toList_data, toList_data]
  intro e
  apply h
  apply ByteArray.ext
  exact Array.toList_inj.1 e
set_option maxRecDepth 100000 in
set_option maxHeartbeats 8000000 in
theorem equal_any (A B : Option Addr) (c d : Nat) (p q : List ByteArray) (hp : p.length ≤ 2000000) (hq : q.length ≤ 2000000) (w : World) (h1 : Kd.C Kd.string w A p.length p) (h2 : Kd.C Kd.string w B q.length q) :
    Calls Try.prog 95 #[.slice A p.length c, .slice B q.length d] w fun e w' => e = .returned (.bool (decide (p = q))) ∧ Below w.heap.size w w' := by
  have HP := Aside0.mk h1
  have HQ := Aside0.mk h2
  clear h1 h2
  by_cases hl : p.length = q.length
  case neg =>
    have hpq : decide (p = q) = false := decide_eq_false (fun e => hl (by rw [e]))
    have HPQ := Aside0.mk hpq
    have z1 : ((p.length : Int) == (q.length : Int)) = false := by rw [beq_eq_false_iff_ne]; omega
    have z2 : ((p.length : Int) != (q.length : Int)) = true := by simp [bne, z1]
    clear hpq
    go_enter Try.func95, Try.ntmps95
    go_wp2
    go_ret
    exact ⟨by rw [HPQ.out]; rfl, Below.refl _ _⟩
  case pos =>
    have HL := Aside0.mk hl
    rw [← hl]
    clear hl
    go_enter Try.func95, Try.ntmps95
    go_wp2
    go_loopw [13] (fun i wr => ∃ k : Nat, i = .int .i64 k ∧ k ≤ p.length ∧ Aside0 ((∀ j, j < k → p[j]? = q[j]?) ∧ Below w.heap.size w wr)) (fun i _ => p.length - (intOf i).toNat)
    case atStart => exact ⟨0, rfl, Nat.zero_le _, ⟨fun j hj => absurd hj (by omega), Below.refl _ _⟩⟩
    case round =>
      obtain ⟨k, rfl, hk, HD⟩ := hrel
      have hk0 : (0 : Int) ≤ (k : Int) := by omega
      by_cases hlt : (k : Int) < (p.length : Int)
      · have hkp : k < p.length := by omega
        have hkq : k < q.length := by rw [← HL.out]; exact hkp
        obtain ⟨a1, rfl, f1⟩ := Kd.at_string (Kd.C_below HP.out HD.out.2) (k : Int) hk0 hlt
        obtain ⟨a2, rfl, f2⟩ := Kd.at_string (Kd.C_below HQ.out HD.out.2) (k : Int) hk0 (by rw [← HL.out]; exact hlt)
        rw [Int.toNat_natCast] at f1 f2
        have e1 : rdOf ByteArray.empty p (k : Int) = p[k] := by unfold rdOf; rw [Int.toNat_natCast, List.getD_eq_getElem?_getD, List.getElem?_eq_getElem hkp]; rfl
        have e2 : rdOf ByteArray.empty q (k : Int) = q[k] := by unfold rdOf; rw [Int.toNat_natCast, List.getD_eq_getElem?_getD, List.getElem?_eq_getElem hkq]; rfl
        rw [e1] at f1
        rw [e2] at f2
        obtain ⟨s, hs⟩ : ∃ s, p[k] = s := ⟨_, rfl⟩
        obtain ⟨t, ht⟩ : ∃ t, q[k] = t := ⟨_, rfl⟩
        rw [hs] at f1
        rw [ht] at f2
        have HS := Aside0.mk hs
        have HT := Aside0.mk ht
        clear e1 e2 hs ht
        by_cases hst : s = t
        · subst hst
          go_wp2
          go_quiet (fail)
          go_wp2
          go_roundw
          case rel =>
            refine ⟨k + 1, by go_num, by omega, ⟨fun j hj => ?_, pw_below_drewN HD.out.2 _⟩⟩
            by_cases e : j = k
            · rw [e, List.getElem?_eq_getElem hkp, List.getElem?_eq_getElem hkq, HS.out, HT.out]
            · exact HD.out.1 j (by omega)
          case measure => simp [intOf]; omega
        · have hb := toList_ne hst
          have hpq : decide (p = q) = false := decide_eq_false (fun e => by
            subst e
            exact hst (HS.out.symm.trans HT.out))
          have HPQ := Aside0.mk hpq
          clear hpq
          go_wp2
          go_quiet (fail)
          go_wp2
          go_ret
          exact ⟨by rw [HPQ.out]; rfl, pw_below_drewN HD.out.2 _⟩
      · have hkl : k = p.length := by omega
        have hpq : p = q := by
          apply List.ext_getElem?
          intro i
          by_cases hi : i < k
          · exact HD.out.1 i hi
          · rw [List.getElem?_eq_none (by omega), List.getElem?_eq_none (by rw [← HL.out]; omega)]
        have HPQ : Aside0 (decide (p = q) = true) := ⟨decide_eq_true hpq⟩
        clear hpq hkl
        go_wp2
        go_ret
        exact ⟨by rw [HPQ.out]; rfl, HD.out.2⟩
/-- Is a list of texts a plan? As the program asks. -/
def planG (p : List ByteArray) : Bool := lettersB p && ((shapeB (rowsOf p) && decide ((scanOf (rowsOf p)).2.length ≤ 9)) && (fullB (rowsOf p) && decide ((numsOf (rowsOf p)).map rowText = p)))
/-- A floor, and whether there is one. -/
def FloorOf (w w' : World) (p : List ByteArray) (e : Ending) : Prop := Below w.heap.size w w' ∧
  ((planG p = true ∧ ∃ fb base, e = .returned (.tuple #[.pointer (some ⟨fb, 0, none⟩), .bool true]) ∧ w.heap.size ≤ base ∧ FloorAt w' base fb (numsOf (rowsOf p)) (scanOf (rowsOf p)).2) ∨
   (planG p = false ∧ ∃ o, e = .returned (.tuple #[.pointer o, .bool false])))
theorem FloorAt.below {W W' : World} {base fb : Nat} {nums : List (List Int)} {boxes : List Box} (h : FloorAt W base fb nums boxes) (hb : Below W.heap.size W W') : FloorAt W' base fb nums boxes := by
  obtain ⟨g, hh, rv, rows, h1, h2, h3, h4, h5, h6⟩ := h
  exact ⟨g, hh, rv, rows, by rw [hb.block _ (Array.getElem?_eq_some_iff.1 h1).1]; exact h1, h2.below hb, h3, h4, own_move h5 (fun j hj => hb.block j (h5.lt j hj).2), h6⟩
theorem nums_small {p : List ByteArray} (hs : shapeB (rowsOf p) = true) : (numsOf (rowsOf p)).length ≤ 6 ∧ ∀ row ∈ numsOf (rowsOf p), row.length ≤ 6 ∧ ∀ k ∈ row, (0 : Int) ≤ k ∧ k ≤ 100 := by
  have h6 : (rowsOf p).length ≤ 6 ∧ ((rowsOf p).getD 0 []).length ≤ 6 := by
    unfold shapeB at hs
    simp only [Bool.and_eq_true, decide_eq_true_eq] at hs
    exact ⟨hs.1.1.1.2, hs.1.2⟩
  unfold numsOf
  refine ⟨by rw [List.length_map, List.length_range]; exact h6.1, fun row hrow => ?_⟩
  obtain ⟨r, hr, rfl⟩ := List.mem_map.1 hrow
  have hr := List.mem_range.1 hr
  refine ⟨by rw [List.length_map, List.length_range]; exact h6.2, fun k hk => ?_⟩
  obtain ⟨c, hc, rfl⟩ := List.mem_map.1 hk
  have hc := List.mem_range.1 hc
  refine ⟨Int.natCast_nonneg _, ?_⟩
  have h1 : numAt ((rowsOf p).getD 0 []).length (cellOf (rowsOf p) ((rowsOf p).getD 0 []).length) (r * ((rowsOf p).getD 0 []).length + c) ≤ r * ((rowsOf p).getD 0 []).length + c := by
    unfold numAt
    exact Nat.le_trans List.idxOf_le_length (scan_len_le _ _ _)
  have h2 : r * ((rowsOf p).getD 0 []).length ≤ 5 * 6 := Nat.mul_le_mul (by omega) h6.2
  omega
theorem StrsAt.reads {W : World} {ob h : Nat} {ss : List ByteArray} (hs : StrsAt W ob h ss) (hl : ss.length = h) (hm : h ≤ 1000) : Kd.C Kd.string W (some ⟨ob, 0, none⟩) ss.length ss := by
  refine Kd.C_of_reads (d := ByteArray.empty) (enc := Value.string) (h1 := fun _ => rfl) ⟨rfl, by omega, fun _ => ⟨⟨ob, 0, none⟩, rfl, fun j hj => ?_⟩⟩
  rw [add_plain, Lib.cell_of_heap hs, hl, Nat.sub_self, List.replicate_zero, List.append_nil]
  simp [List.getD_eq_getElem?_getD, List.getElem?_eq_getElem hj]

set_option maxRecDepth 100000 in
set_option maxHeartbeats 8000000 in
theorem floorOf_any (A : Option Addr) (cap : Nat) (p : List ByteArray) (hp : p.length ≤ 2000000) (hs : ∀ s ∈ p, s.size ≤ 2000000) (w : World) (hr0 : Kd.C Kd.string w A p.length p) (hc0 : p.length ≤ cap) :
    Calls Try.prog 49 #[.slice A p.length cap] w fun e w' => FloorOf w w' p e := by
  have HRD := read_any A cap p hp hs w hr0 hc0
  have HP := Aside0.mk hr0
  clear hr0 hs
  go_enter Try.func49, Try.ntmps49
  go_wp2_with fail
  refine HRD.mono ?_
  rintro e w1 (⟨hlet, w0, hb0, hb1, ⟨hsh, fb, rfl, hfl⟩ | ⟨hsh, rfl⟩⟩ | ⟨hlet, rfl, hb1⟩)
  · have HB := Aside0.mk (hb0.trans (hb1.mono hb0.size))
    have HB0 := Aside0.mk hb0
    cases hfu : fullB (rowsOf p) with
    | false =>
      have hpl : planG p = false := by unfold planG; rw [hfu]; simp
      have HPL := Aside0.mk hpl
      clear hpl hlet hsh hfl hb0 hb1 hfu
      go_wp2_with fail
      go_ret2
      exact ⟨HB.out, .inr ⟨HPL.out, _, rfl⟩⟩
    | true =>
      have hshape : shapeB (rowsOf p) = true := by simp only [Bool.and_eq_true] at hsh; exact hsh.1
      obtain ⟨hn1, hn2⟩ := nums_small hshape
      have HFL := Aside0.mk hfl
      obtain ⟨g, hh, rv, rows, k1, k2, k3, k4, k5, k6⟩ := hfl
      have hrows : ∀ x ∈ rows, x.2.length ≤ 100 ∧ ∀ k ∈ x.2, (0 : Int) ≤ k ∧ k ≤ 100 := fun x hx => by
        have := hn2 x.2 (by rw [← k3]; exact List.mem_map_of_mem hx)
        exact ⟨by omega, this.2⟩
      have hh6 : hh ≤ 6 := by
        rw [← k4]
        have := congrArg List.length k3
        rw [List.length_map] at this
        omega
      have HTX := text_any fb g hh rv rows w1 k1 k2 k4 (by omega) hrows
      have hslen : ((rows.map Prod.snd).map rowText).length = hh := by rw [List.length_map, List.length_map, k4]
      have HK3 := Aside0.mk k3
      have HPLAN : Aside0 (planG p = decide ((numsOf (rowsOf p)).map rowText = p)) := ⟨by unfold planG; rw [hlet, hsh, hfu]; simp⟩
      have HSL := Aside0.mk hslen
      clear k1 k2 k3 k4 k5 k6 hrows hn1 hn2 hshape hsh hlet hfu hslen hb0 hb1
      go_wp2_with fail
      refine HTX.mono ?_
      rintro e w2 ⟨rfl, hst, hb2⟩
      have HB2 := Aside0.mk hb2
      have HEQ := equal_any (some ⟨w1.heap.size, 0, none⟩) A hh cap ((rows.map Prod.snd).map rowText) p (by rw [HSL.out]; omega) hp w2 (StrsAt.reads hst HSL.out (by omega)) (Kd.C_below HP.out (HB.out.trans (hb2.mono HB.out.size)))
      rw [HSL.out, HK3.out, ← HPLAN.out] at HEQ
      clear hst hb2
      go_wp2_with fail
      refine HEQ.mono ?_
      rintro e w3 ⟨rfl, hb3⟩
      have HB3 : Aside0 (Below w1.heap.size w1 w3) := ⟨HB2.out.trans (hb3.mono HB2.out.size)⟩
      clear hb3 HEQ
      cases hpl : planG p with
      | true =>
        have HPL := Aside0.mk hpl
        clear hpl
        go_wp2_with fail
        go_ret2
        exact ⟨HB.out.trans (HB3.out.mono HB.out.size), .inl ⟨HPL.out, fb, w0.heap.size, rfl, HB0.out.size, HFL.out.below HB3.out⟩⟩
      | false =>
        have HPL := Aside0.mk hpl
        clear hpl
        go_wp2_with fail
        go_ret2
        exact ⟨HB.out.trans (HB3.out.mono HB.out.size), .inr ⟨HPL.out, _, rfl⟩⟩
  · have HB := Aside0.mk (hb0.trans (hb1.mono hb0.size))
    have hpl : planG p = false := by unfold planG; rw [hsh]; simp
    have HPL := Aside0.mk hpl
    clear hpl hlet hsh hb0 hb1
    go_wp2_with fail
    go_ret2
    exact ⟨HB.out, .inr ⟨HPL.out, _, rfl⟩⟩
  · have HB := Aside0.mk hb1
    have hpl : planG p = false := by unfold planG; rw [hlet]; rfl
    have HPL := Aside0.mk hpl
    clear hpl hlet hb1
    go_wp2_with fail
    go_ret2
    exact ⟨HB.out, .inr ⟨HPL.out, _, rfl⟩⟩
end Go.Proofs.Ytiehiockjlhbcaa
