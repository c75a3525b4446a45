/- ProofCut: the reference's, and the names that a printed law takes. -/
import Derived.Test.YtiehiockjlhbcaaKCutStuckS
namespace Go.Proofs.Ytiehiockjlhbcaa
open Go.RowKit Go.Shelf Go.Proofs.YtiehiockjlhbcaaW.PrintWords Go.Proofs.YtiehiockjlhbcaaW.PrintMore
set_option linter.unusedVariables false
set_option linter.unusedSimpArgs false

theorem str_row (l : List Int) : strOfNums (l.map fun x => 97 + x) = rowText l := by
  unfold strOfNums rowText rowBytes letOf
  rw [List.map_map]
  rfl
theorem rooms_small (p : List ByteArray) (h : planG p = true) : (stuckRooms p).length ≤ 9 ∧ ∀ k : Nat, k < (stuckRooms p).length → 0 ≤ rd (stuckRooms p) k ∧ rd (stuckRooms p) k ≤ 100 := by
  have f := planFlat h
  have hfew := f.few
  unfold stuckRooms
  cases stuckO p with
  | none => exact ⟨Nat.zero_le _, fun k hk => absurd hk (Nat.not_lt_zero _)⟩
  | some R =>
    have hll := listL_len (boxesP p) (boxR R) (boxesP p).length
    refine ⟨by show (listL _ _ _).length ≤ 9; omega, fun k hk => ?_⟩
    change k < (listL (boxesP p) (boxR R) (boxesP p).length).length at hk
    show 0 ≤ rd (listL (boxesP p) (boxR R) (boxesP p).length) k ∧ rd (listL (boxesP p) (boxR R) (boxesP p).length) k ≤ 100
    rw [rd_get hk]
    obtain ⟨m, e, hm, _⟩ := listL_mem (List.getElem_mem hk)
    rw [e]; omega
theorem add_take {l : List Int} {k : Nat} (hk : k < l.length) : (l.take (k + 1)).map (fun x => 97 + x) = (l.take k).map (fun x => 97 + x) ++ [97 + rd l k] := by
  rw [List.take_succ_eq_append_getElem hk, List.map_append]
  unfold rd
  rw [Int.toNat_natCast, List.getD_eq_getElem?_getD, List.getElem?_eq_getElem hk]
  rfl
set_option maxRecDepth 100000 in
set_option maxHeartbeats 8000000 in
theorem specProofCut_any (A : Option Addr) (cap : Nat) (p : List ByteArray) (hp : SmallP p) (w : World) (hr0 : Kd.C Kd.string w A p.length p) (hc0 : p.length ≤ cap) :
    Calls Try.prog 36 #[.slice A p.length cap] w fun e w' => e = .returned (.tuple #[.string (proofCutP p).1, .bool (proofCutP p).2]) ∧ Below w.heap.size w w' := by
  have HPI := Aside0.mk (fun W (hW : Below w.heap.size w W) => spec_PlanIn.calls A cap p (planG p) W (Kd.C_below hr0 hW) hc0 (by unfold spec_PlanIn.f; rw [if_pos hp]))
  by_cases hpl : planG p = true
  · have HCS := Aside0.mk (fun W (hW : Below w.heap.size w W) => specCutStuck_any A cap p hp W (Kd.C_below hr0 hW) hc0)
    have hv : cutStuckP p = stuckRooms p := by unfold cutStuckP; rw [if_pos hpl]
    rw [hv] at HCS
    rw [hpl] at HPI
    have f := planFlat hpl
    have hhi := f.high
    have hwi := f.wide
    obtain ⟨s, he, hs⟩ := spec_text p hpl
    obtain ⟨kt, hkt⟩ := he.ex
    have HTX := Aside0.mk (fun W (hW : Below w.heap.size w W) => L3.spec_l3Text.calls kt A cap p s _ W (Kd.C_below hr0 hW) hc0 hkt)
    have hlen := textL_len (clP p) (boxesP p) 13 (0, 0, p.length, wdP p)
    change ∀ x, cutTextO p = some x → _ at hlen
    obtain ⟨hl9, hle⟩ := rooms_small p hpl
    cases ho : cutTextO p with
    | some x =>
      have hsx := hs x ho
      have hxl := hlen x ho
      have hval : proofCutP p = (wCut ++ ⟨x.toArray⟩, true) := by unfold proofCutP; rw [if_pos hpl, ho]
      have HV := Aside0.mk hval
      rw [ho, hsx] at HTX
      have hsz : x.length ≤ 10000 := by omega
      clear hval hlen hxl hl9 hle hsx hs he hkt f hv hpl ho hr0 hhi hwi
      go_enter Try.func36, Try.ntmps36
      go_wp2_with fail
      refine (HPI.out _ (Below.refl _ _)).mono ?_
      rintro e w1 ⟨rfl, hb1⟩
      have HB1 := Aside0.mk hb1
      clear hb1
      go_wp2_with fail
      refine (HTX.out _ HB1.out).mono ?_
      rintro e w2 ⟨rfl, hb2⟩
      have HB2 := Aside0.mk (HB1.out.trans (hb2.mono HB1.out.size))
      clear hb2
      go_wp2_with fail
      go_ret2
      exact ⟨by rw [HV.out]; rfl, HB2.out⟩
    | none =>
      have hval : proofCutP p = (wStuck ++ rowText (stuckRooms p), true) := by unfold proofCutP; rw [if_pos hpl, ho]
      have HV := Aside0.mk hval
      rw [ho] at HTX
      obtain ⟨L, hL⟩ : ∃ L, stuckRooms p = L := ⟨_, rfl⟩
      rw [hL] at HV HCS hle hl9
      have HLE := Aside0.mk hle
      have hrs : (rowText L).size ≤ 100 := by
        unfold rowText rowBytes
        show (List.map letOf L).toArray.size ≤ 100
        rw [List.size_toArray, List.length_map]; omega
      clear hval hlen hle hs he hkt f hv hpl ho hr0 hhi hwi hL
      go_enter Try.func36, Try.ntmps36
      go_wp2_with fail
      refine (HPI.out _ (Below.refl _ _)).mono ?_
      rintro e w1 ⟨rfl, hb1⟩
      have HB1 := Aside0.mk hb1
      clear hb1
      go_wp2_with fail
      refine (HTX.out _ HB1.out).mono ?_
      rintro e w2 ⟨rfl, hb2⟩
      have HB2 := Aside0.mk (HB1.out.trans (hb2.mono HB1.out.size))
      clear hb2
      go_wp2_with fail
      refine (HCS.out _ HB2.out).mono ?_
      rintro e w3 ⟨⟨A3, c3, rfl, ho3⟩, hb3⟩
      have HB3 := Aside0.mk (HB2.out.trans (hb3.mono HB2.out.size))
      have HC3 : Aside0 (Kd.C (Kd.int .i64) w3 A3 L.length L) := ⟨by
        obtain ⟨A', c', e, hrd⟩ := own_reads ho3
        injection e with e1 e2 e3
        subst e1
        exact Kd.C_of_reads (d := 0) (enc := Value.int .i64) (h1 := fun _ => rfl) hrd⟩
      have hc3 : L.length ≤ c3 := own_cap ho3
      clear hb3 ho3
      have HO4 : Aside0 ((w3.alloc (.cells #[] 5)).ownsRow w3.heap.size 5 1 (.slice (some ⟨w3.heap.size, 0, none⟩) 0 0) 0 (nums .u8 [])) := ⟨own_lit w3 w3.heap.size 5 .u8 [] (Nat.le_refl _) (by simp)⟩
      go_wp2_with fail
      go_loopw [8, 9] (fun v i wr => ∃ (k n c : Nat) (A : Option Addr), i = .int .i64 k ∧ k ≤ L.length ∧ v = .slice A n c ∧ Aside0 (n = ((L.take k).map fun x => 97 + x).length ∧ wr.ownsRow w3.heap.size 5 1 (.slice A n c) n (nums .u8 ((L.take k).map fun x => 97 + x)) ∧ Below w3.heap.size w3 wr)) (fun _ i _ => L.length - (intOf i).toNat)
      case atStart =>
        exact ⟨0, 0, 0, some ⟨w3.heap.size, 0, none⟩, rfl, Nat.zero_le _, rfl, ⟨rfl, HO4.out, (Below.refl _ _).alloc (Nat.le_refl _) _⟩⟩
      case round =>
        obtain ⟨k, n, c, A1, rfl, hk, rfl, HD⟩ := hrel
        by_cases hlt : k < L.length
        · obtain ⟨ad, hA, f0⟩ := Kd.at_int (Kd.C_below HC3.out HD.out.2.2) (k : Int) (by omega) (by omega)
          have HVX := HLE.out k hlt
          have hat := add_take hlt
          obtain ⟨x, hx⟩ : ∃ x, rd L (k : Int) = x := ⟨_, rfl⟩
          rw [hx] at HVX f0 hat
          rw [Int.toNat_natCast] at f0
          have h0 := HVX.1
          have h9 := HVX.2
          have HAT := Aside0.mk hat
          have hA' := Aside0.mk hA
          clear hx HVX hat
          subst hA
          have HNL : Aside0 (n ≤ 9) := ⟨by rw [HD.out.1, List.length_map, List.length_take]; omega⟩
          go_wp2_with (at_builtin; refine print_append_num (w0 := w3) w3.heap.size rfl (.tmp 33) (.tmp 40) 31 5 .u8 1 rfl Try.underlying31 (by kernel_rfl) (by omega) _ ((L.take k).map fun x => 97 + x) (97 + x) rfl rfl ?k1 ?k4 ?k3 ?k2 ?_; (case k1 => rw [← HD.out.1]; exact HD.out.2.1); (case k4 => exact HD.out.2.2); (case k3 => exact HD.out.2.2.size); (case k2 => rw [← HD.out.1]; have := HNL.out; omega); intro v1 w5 ho hB hg hat; have HO5 := Aside0.mk ho; have HB5 := Aside0.mk hB; clear ho hB hg hat)
          obtain ⟨A5, c5, rfl⟩ := own_slice HO5.out
          refine ⟨⟨k + 1, (((L.take k).map fun x => 97 + x) ++ [97 + x]).length, c5, A5, by push_cast; rfl, by omega, rfl, ⟨by rw [HAT.out], by rw [HAT.out]; exact HO5.out, HB5.out⟩⟩, by simp [intOf]; omega⟩
        · have hke : L.take k = L := List.take_of_length_le (by omega)
          have HO6 := HD.out.2.1
          rw [hke] at HO6
          have hcv := own_string (P := Try.prog) (src := 31) (dst := 9) Try.underlying31 Try.underlying5 Try.underlying9 HO6
          rw [str_row] at hcv
          clear HO6 hke
          go_wp2_with fail
          go_ret2
          exact ⟨by rw [HV.out]; rfl, HB3.out.trans (HD.out.2.2.mono HB3.out.size)⟩
  · have hplf : planG p = false := by simpa using hpl
    have hval : proofCutP p = (⟨#[]⟩, false) := by unfold proofCutP; rw [if_neg hpl]
    have HV := Aside0.mk hval
    rw [hplf] at HPI
    clear hval hpl hplf hr0
    go_enter Try.func36, Try.ntmps36
    go_wp2_with fail
    refine (HPI.out _ (Below.refl _ _)).mono ?_
    rintro e w1 ⟨rfl, hb1⟩
    have HB1 := Aside0.mk hb1
    clear hb1
    go_wp2_with fail
    go_ret2
    exact ⟨by rw [HV.out]; rfl, HB1.out⟩

/-! The names that a printed law takes. -/
def impl_ProofCut.f (l0 : List ByteArray) : Option (ByteArray × Bool) := if SmallP l0 then some (proofCutP l0) else none
theorem impl_ProofCut.calls (A0 : Option Addr) (c0 : Nat) (l0 : List ByteArray) (r1 : ByteArray) (r2 : Bool) (w : World) (hr0 : Kd.C Kd.string w A0 l0.length l0) (hc0 : l0.length ≤ c0) (h : impl_ProofCut.f l0 = some (r1, r2)) :
    Calls Try.prog 27 #[.slice A0 l0.length c0] w fun e w' => e = .returned (.tuple #[.string r1, .bool r2]) ∧ Below w.heap.size w w' := by
  unfold impl_ProofCut.f at h
  split at h
  · rename_i hb; injection h with h; have := proofCut_any A0 c0 l0 hb w hr0 hc0; rw [h] at this; exact this
  · cases h
def spec_ProofCut.f (l0 : List ByteArray) : Option (ByteArray × Bool) := if SmallP l0 then some (proofCutP l0) else none
theorem spec_ProofCut.calls (A0 : Option Addr) (c0 : Nat) (l0 : List ByteArray) (r1 : ByteArray) (r2 : Bool) (w : World) (hr0 : Kd.C Kd.string w A0 l0.length l0) (hc0 : l0.length ≤ c0) (h : spec_ProofCut.f l0 = some (r1, r2)) :
    Calls Try.prog 36 #[.slice A0 l0.length c0] w fun e w' => e = .returned (.tuple #[.string r1, .bool r2]) ∧ Below w.heap.size w w' := by
  unfold spec_ProofCut.f at h
  split at h
  · rename_i hb; injection h with h; have := specProofCut_any A0 c0 l0 hb w hr0 hc0; rw [h] at this; exact this
  · cases h
end Go.Proofs.Ytiehiockjlhbcaa
