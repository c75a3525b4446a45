/- The program's lettersOf and ProofCut. -/
import Derived.Test.YtiehiockjlhbcaaKCutText
import Derived.Test.YtiehiockjlhbcaaKStuck
namespace Go.Proofs.Ytiehiockjlhbcaa
open Go.RowKit Go.Shelf Go.Proofs.YtiehiockjlhbcaaW.PrintWords Go.Proofs.YtiehiockjlhbcaaW.PrintMore
set_option linter.unusedVariables false

theorem rowBytes_take {l : List Int} {k : Nat} (hk : k < l.length) : rowBytes (l.take (k + 1)) = rowBytes (l.take k) ++ [letOf (rd l k)] := by
  unfold rowBytes
  rw [List.take_succ_eq_append_getElem hk, List.map_append]
  unfold rd
  rw [Int.toNat_natCast, List.getD_eq_getElem?_getD, List.getElem?_eq_getElem hk]
  rfl
set_option maxRecDepth 100000 in
set_option maxHeartbeats 4000000 in
theorem letters_any (A : Option Addr) (c : Nat) (l : List Int) (hl : l.length ≤ 1000) (hd : ∀ k : Nat, k < l.length → 0 ≤ rd l k ∧ rd l k ≤ 100) (w : World) (hr : Kd.C (Kd.int .i64) w A l.length l) (hc : l.length ≤ c) :
    Calls Try.prog 57 #[.slice A l.length c] w fun e w' => e = .returned (.string (rowText l)) ∧ Below w.heap.size w w' := by
  have HR := Aside0.mk hr
  have HD := Aside0.mk hd
  clear hr hd
  go_enter Try.func57, Try.ntmps57
  go_wp2
  go_loopw [8] (fun i wr => ∃ k : Nat, i = .int .i64 k ∧ k ≤ l.length ∧ Aside0 (IsB w.heap.size w.heap.size (Lib.byteCells (rowBytes (l.take k))) wr) ∧ Aside0 (Below w.heap.size w wr)) (fun i _ => l.length - (intOf i).toNat)
  case atStart => exact ⟨0, rfl, Nat.zero_le _, ⟨Lib.fresh_isBuilder 109 5 w⟩, ⟨(Below.refl _ _).alloc (Nat.le_refl _) _⟩⟩
  case round =>
    obtain ⟨k, rfl, hk, hB, hbel⟩ := hrel
    by_cases hlt : k < l.length
    · obtain ⟨ad, hA, f0⟩ := Kd.at_int (Kd.C_below HR.out hbel.out) (k : Int) (by omega) (by omega)
      have HV := HD.out k hlt
      obtain ⟨n, hn⟩ : ∃ n, rd l (k : Int) = n := ⟨_, rfl⟩
      rw [hn] at HV f0
      rw [Int.toNat_natCast] at f0
      have h0 := HV.1
      have h9 := HV.2
      have HN := Aside0.mk hn
      have hA' := Aside0.mk hA
      clear hn HV
      subst hA
      have hlen : (Lib.byteCells (rowBytes (l.take k))).length + 2 ≤ 140737488355328 := by
        unfold Lib.byteCells rowBytes; rw [List.length_map, List.length_map, List.length_take]; omega
      have HLN := Aside0.mk hlen
      have HS := hbel.out.size
      clear hlen
      go_wp2_with (go_at_call 107; refine (writeByte_any w.heap.size w.heap.size _ _ _ hB.out (by have := HLN.out; omega) (by omega)).mono ?_; rintro e w2 ⟨rfl, hB2, hb2⟩)
      refine ⟨⟨k + 1, by push_cast; rfl, by omega, ⟨?_⟩, ⟨hbel.out.trans hb2⟩⟩, by simp [intOf]; omega⟩
      rw [rowBytes_take hlt, HN.out, byteCells_let ⟨h0, h9⟩]
      exact hB2
    · have hke : l.take k = l := List.take_of_length_le (by omega)
      have HS := hbel.out.size
      have HB2 := hB.out
      rw [hke] at HB2
      have HB3 := Aside0.mk HB2
      clear HB2 hke hB
      go_wp2_with (go_at_call 108; refine (Try.Builder_String_any w.heap.size w.heap.size _ _ HB3.out (by omega)).mono ?_; rintro e w2 ⟨rfl, hb2⟩)
      go_ret
      exact ⟨rfl, hbel.out.trans hb2⟩

/-- A part without a cut is found just where there is no text. -/
theorem stuck_text (cl : Nat → Nat → Int) (boxes : List Box) : ∀ (n : Nat) (r c ph pw : Nat), ph + pw < n → (textL cl boxes n (r, c, ph, pw)).isSome = !(stuckL cl boxes n (r, c, ph, pw)).isSome := by
  intro n
  induction n with
  | zero => intro r c ph pw h; omega
  | succ n ih =>
    intro r c ph pw h
    by_cases h1 : (listL boxes (natB r c ph pw) boxes.length).length = 1
    · rw [textL_one h1]; unfold stuckL; rw [if_pos h1]; rfl
    · cases hx : (cutsL cl r c ph pw).head? with
      | none => rw [textL_none h1 hx]; unfold stuckL; rw [if_neg h1, hx]; rfl
      | some x =>
        have hxm := head_in hx
        have i1 := (one_in hxm).less
        have i2 := (two_in hxm).less
        have e1 := ih (oneR r c ph pw x).1 (oneR r c ph pw x).2.1 (oneR r c ph pw x).2.2.1 (oneR r c ph pw x).2.2.2 (by omega)
        have e2 := ih (twoR r c ph pw x).1 (twoR r c ph pw x).2.1 (twoR r c ph pw x).2.2.1 (twoR r c ph pw x).2.2.2 (by omega)
        have e1 : (textL cl boxes n (oneR r c ph pw x)).isSome = !(stuckL cl boxes n (oneR r c ph pw x)).isSome := e1
        have e2 : (textL cl boxes n (twoR r c ph pw x)).isSome = !(stuckL cl boxes n (twoR r c ph pw x)).isSome := e2
        rw [textL_some h1 hx]
        conv => rhs; unfold stuckL
        rw [if_neg h1, hx]
        simp only
        cases a : textL cl boxes n (oneR r c ph pw x) <;> cases b : stuckL cl boxes n (oneR r c ph pw x) <;> rw [a, b] at e1 <;> simp at e1 <;> cases d : textL cl boxes n (twoR r c ph pw x) <;> rw [d] at e2 <;> simp at e2 <;> simp [e2]
theorem stuck_whole {cl : Nat → Nat → Int} {boxes : List Box} {h wd : Nat} (f : Flat cl boxes h wd) : ∀ (n : Nat) (r c ph pw : Nat), Whole cl h wd r c ph pw → ∀ R, stuckL cl boxes n (r, c, ph, pw) = some R → Whole cl h wd R.1 R.2.1 R.2.2.1 R.2.2.2 := by
  intro n
  induction n with
  | zero => intro r c ph pw _ R h; cases h
  | succ n ih =>
    intro r c ph pw hw R h
    unfold stuckL at h
    split at h
    · cases h
    · split at h
      · obtain rfl := Option.some.inj h; exact hw
      · rename_i x hx
        obtain ⟨w1, w2⟩ := whole_parts f hw (head_in hx)
        split at h
        · rename_i R1 h1
          obtain rfl := Option.some.inj h
          exact ih _ _ _ _ w1 R1 h1
        · exact ih _ _ _ _ w2 R h
def stuckO (p : List ByteArray) : Option Rc := stuckL (clP p) (boxesP p) 13 (0, 0, p.length, wdP p)
/-- The rooms of the first part without a cut. -/
def stuckRooms (p : List ByteArray) : List Int := match stuckO p with
  | none => []
  | some R => listL (boxesP p) (boxR R) (boxesP p).length
def wCut : ByteArray := ⟨#[99, 117, 116, 32]⟩
def wStuck : ByteArray := ⟨#[115, 116, 117, 99, 107, 32]⟩
/-- What ProofCut answers. -/
def proofCutP (p : List ByteArray) : ByteArray × Bool := if planG p then (match cutTextO p with
  | some s => (wCut ++ ⟨s.toArray⟩, true)
  | none => (wStuck ++ rowText (stuckRooms p), true)) else (⟨#[]⟩, false)
set_option maxHeartbeats 8000000 in
theorem proofCut_any (A : Option Addr) (cap : Nat) (p : List ByteArray) (hp : SmallP p) (w : World) (hr0 : Kd.C Kd.string w A p.length p) (hc0 : p.length ≤ cap) :
    Calls Try.prog 27 #[.slice A p.length cap] w fun e w' => e = .returned (.tuple #[.string (proofCutP p).1, .bool (proofCutP p).2]) ∧ Below w.heap.size w w' := by
  have HFL := floorOf_any A cap p hp.1 hp.2 w hr0 hc0
  clear hr0
  go_enter Try.func27, Try.ntmps27
  go_wp2_with fail
  refine HFL.mono ?_
  rintro e w1 ⟨hb1, ⟨hpl, fb, base, rfl, hbase, hfl⟩ | ⟨hpl, o, rfl⟩⟩
  · have HB1 := Aside0.mk hb1
    have F := Aside0.mk (planFlat hpl)
    have hR := hfl.reads
    have hh := (planFlat hpl).high
    have hw := (planFlat hpl).wide
    have HWH := Aside0.mk (fun W (hW : Below w1.heap.size w1 W) => whole_any fb p.length (wdP p) (clP p) (boxesP p) W (hR.below hW) (by omega) (by omega))
    have HTX := Aside0.mk (fun W (hW : Below w1.heap.size w1 W) => text_of fb p.length (wdP p) (clP p) (boxesP p) hh.2 hw.2 F.out.boxIn F.out.few 0 0 p.length (wdP p) (by omega) (by omega) W (hR.below hW))
    have HSK := Aside0.mk (fun W (hW : Below w1.heap.size w1 W) => stuck_any fb p.length (wdP p) (clP p) (boxesP p) hh.2 hw.2 F.out.boxIn F.out.few 13 (by omega) 0 0 p.length (wdP p) (by omega) (by omega) (by omega) W (hR.below hW))
    have HRR := Aside0.mk hR
    have hst := stuck_text (clP p) (boxesP p) 13 0 0 p.length (wdP p) (by omega)
    have hwh := stuck_whole F.out 13 0 0 p.length (wdP p) F.out.whole
    have hlen := textL_len (clP p) (boxesP p) 13 (0, 0, p.length, wdP p)
    obtain ⟨o, ho⟩ : ∃ o, textL (clP p) (boxesP p) 13 (0, 0, p.length, wdP p) = o := ⟨_, rfl⟩
    rw [ho] at HTX hst hlen
    have HO := Aside0.mk (show cutTextO p = o from ho)
    have HPL := Aside0.mk hpl
    clear hb1 hpl hfl hR ho
    go_wp2_with fail
    refine (HWH.out _ (Below.refl _ _)).mono ?_
    rintro e w2 ⟨rfl, hb2⟩
    have HB2 := Aside0.mk hb2
    clear hb2
    go_wp2_with fail
    refine (HTX.out _ HB2.out).mono ?_
    rintro e w3 ⟨rfl, hb3⟩
    have HB3 := Aside0.mk (HB2.out.trans (hb3.mono HB2.out.size))
    clear hb3
    unfold textV
    cases o with
    | some s =>
      have hs := hlen s rfl
      have hval : proofCutP p = (wCut ++ ⟨s.toArray⟩, true) := by unfold proofCutP; rw [if_pos HPL.out, HO.out]
      have HV := Aside0.mk hval
      clear hval hst hwh hlen
      simp only [Option.getD_some, Option.isSome_some]
      go_wp2_with fail
      go_ret2
      exact ⟨by rw [HV.out]; rfl, HB1.out.trans (HB3.out.mono HB1.out.size)⟩
    | none =>
      obtain ⟨R, hRo⟩ : ∃ R, stuckL (clP p) (boxesP p) 13 (0, 0, p.length, wdP p) = some R := by
        cases hq : stuckL (clP p) (boxesP p) 13 (0, 0, p.length, wdP p) with
        | none => rw [hq] at hst; cases hst
        | some R => exact ⟨R, rfl⟩
      have hwR := hwh R hRo
      have hval : proofCutP p = (wStuck ++ rowText (listL (boxesP p) (boxR R) (boxesP p).length), true) := by
        unfold proofCutP
        rw [if_pos HPL.out, HO.out]
        have : stuckRooms p = listL (boxesP p) (boxR R) (boxesP p).length := by unfold stuckRooms stuckO; rw [hRo]
        simp only [this]
      have HV := Aside0.mk hval
      have hrow := hwR.row
      have hcol := hwR.col
      have HLI := Aside0.mk (fun W (hW : Below w1.heap.size w1 W) => list_any fb p.length (wdP p) (clP p) (boxesP p) W (HRR.out.below hW) (boxR R) (boxIn_nat (by omega) (by omega) (by omega) (by omega)) F.out.boxIn (by have := F.out.few; omega))
      have hll := listL_len (boxesP p) (boxR R) (boxesP p).length
      have hfew := F.out.few
      have hle : ∀ k : Nat, k < (listL (boxesP p) (boxR R) (boxesP p).length).length → 0 ≤ rd (listL (boxesP p) (boxR R) (boxesP p).length) k ∧ rd (listL (boxesP p) (boxR R) (boxesP p).length) k ≤ 100 := fun k hk => by
        rw [rd_get hk]
        obtain ⟨m, e, hm, _⟩ := listL_mem (List.getElem_mem hk)
        rw [e]; omega
      rw [hRo] at HSK
      have HLE := Aside0.mk (fun A c W => letters_any A c (listL (boxesP p) (boxR R) (boxesP p).length) (by omega) hle W)
      obtain ⟨L, hL⟩ : ∃ L, listL (boxesP p) (boxR R) (boxesP p).length = L := ⟨_, rfl⟩
      rw [hL] at HLI HLE HV hll
      have hrs : (rowText L).size ≤ 100 := by
        unfold rowText rowBytes
        show (List.map letOf L).toArray.size ≤ 100
        rw [List.size_toArray, List.length_map]; omega
      clear hval hst hwh hlen hRo hwR hrow hcol hle hL
      simp only [Option.getD_none, Option.isSome_none]
      go_wp2_with fail
      refine (HWH.out _ HB3.out).mono ?_
      rintro e w4 ⟨rfl, hb4⟩
      have HB4 := Aside0.mk (HB3.out.trans (hb4.mono HB3.out.size))
      clear hb4
      go_wp2_with fail
      refine (HSK.out _ HB4.out).mono ?_
      rintro e w5 ⟨rfl, hb5⟩
      have HB5 := Aside0.mk (HB4.out.trans (hb5.mono HB4.out.size))
      clear hb5
      simp only [stuckV, stuckC, partCells, Option.isSome_some]
      go_wp2_with fail
      unfold partV at HLI
      have hb6 := HB5.out.alloc HB5.out.size (.cells #[.pointer (some ⟨fb, 0, none⟩), .int .i64 (boxR R).1, .int .i64 (boxR R).2.1, .int .i64 (boxR R).2.2.1, .int .i64 (boxR R).2.2.2] 52)
      refine (HLI.out _ hb6).mono ?_
      rintro e w7 ⟨⟨A2, c2, rfl, hc2, hC⟩, hb7⟩
      have HB7 := Aside0.mk (hb6.trans (hb7.mono hb6.size))
      have HCC := Aside0.mk hC
      clear hb6 hb7 hC
      go_wp2_with fail
      refine (HLE.out _ _ _ HCC.out hc2).mono ?_
      rintro e w8 ⟨rfl, hb8⟩
      have HB8 := Aside0.mk (HB7.out.trans (hb8.mono HB7.out.size))
      clear hb8
      go_wp2_with fail
      go_ret2
      exact ⟨by rw [HV.out]; rfl, HB1.out.trans (HB8.out.mono HB1.out.size)⟩
  · have HB1 := Aside0.mk hb1
    have hval : proofCutP p = (⟨#[]⟩, false) := by unfold proofCutP; rw [hpl]; rfl
    have HV := Aside0.mk hval
    clear hb1 hpl hval
    go_wp2_with fail
    go_ret2
    exact ⟨by rw [HV.out]; rfl, HB1.out⟩
end Go.Proofs.Ytiehiockjlhbcaa
