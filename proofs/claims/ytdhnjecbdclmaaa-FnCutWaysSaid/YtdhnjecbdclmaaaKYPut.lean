/- The reference's l1Put: a letter is put into rows and columns. -/
import Derived.Test.YtdhnjecbdclmaaaKYExPlanM
import Derived.Test.YtdhnjecbdclmaaaKYSpecCutB
namespace Go.Proofs.Ytdhnjecbdclmaaa
open Go.RowKit Go.Shelf Go.Proofs.YtdhnjecbdclmaaaW.PrintWords Go.Proofs.YtdhnjecbdclmaaaW.PrintMore
set_option linter.unusedVariables false
set_option linter.unusedSimpArgs false
def rowPut (s : ByteArray) (left d : Nat) (c : Int) : List Int := (List.range s.size).map fun j => if left ≤ j ∧ j < left + d then c else bt s (j : Int)
theorem rowPut_len (s : ByteArray) (left d : Nat) (c : Int) : (rowPut s left d c).length = s.size := by unfold rowPut; simp
theorem rowPut_get (s : ByteArray) (left d : Nat) (c : Int) (j : Nat) (hj : j < s.size) : (rowPut s left d c).getD j 0 = if left ≤ j ∧ j < left + d then c else bt s (j : Int) := by
  unfold rowPut
  rw [List.getD_eq_getElem?_getD, List.getElem?_map, List.getElem?_range hj]
  rfl
theorem rowPut_zero (s : ByteArray) (left : Nat) (c : Int) : rowPut s left 0 c = bytesOf s := by
  apply List.ext_getElem
  · rw [rowPut_len, bytesOf_length]
  · intro i h1 h2
    rw [rowPut_len] at h1
    have e1 := rowPut_get s left 0 c i h1
    rw [if_neg (by omega)] at e1
    rw [List.getD_eq_getElem?_getD, List.getElem?_eq_getElem (by rw [rowPut_len]; exact h1)] at e1
    have e2 := rd_bytesOf s (i : Int)
    unfold rd at e2
    rw [Int.toNat_natCast, List.getD_eq_getElem?_getD, List.getElem?_eq_getElem h2] at e2
    exact e1.trans e2.symm
theorem rowPut_more (s : ByteArray) (left d : Nat) (c : Int) : (rowPut s left d c).set (left + d) c = rowPut s left (d + 1) c := by
  apply List.ext_getElem
  · rw [List.length_set, rowPut_len, rowPut_len]
  · intro i h1 h2
    rw [rowPut_len] at h2
    have g1 := rowPut_get s left d c i h2
    have g2 := rowPut_get s left (d + 1) c i h2
    rw [List.getD_eq_getElem?_getD, List.getElem?_eq_getElem (by rw [rowPut_len]; exact h2)] at g1 g2
    rw [List.getElem_set]
    change (rowPut s left d c)[i]'_ = _ at g1
    change (rowPut s left (d + 1) c)[i]'_ = _ at g2
    rw [g2]
    by_cases e : left + d = i
    · rw [if_pos e, if_pos (by omega)]
    · rw [if_neg e, g1]
      by_cases e2 : left ≤ i ∧ i < left + d
      · rw [if_pos e2, if_pos (by omega)]
      · rw [if_neg e2, if_neg (by omega)]
def putT (p : List ByteArray) (top d left w : Nat) (c : Int) : List ByteArray := (List.range p.length).map fun i => if top ≤ i ∧ i < top + d then strOfNums (rowPut (rdOf ByteArray.empty p (i : Int)) left w c) else rdOf ByteArray.empty p (i : Int)
theorem putT_len (p : List ByteArray) (top d left w : Nat) (c : Int) : (putT p top d left w c).length = p.length := by unfold putT; simp
theorem putT_get (p : List ByteArray) (top d left w : Nat) (c : Int) (i : Nat) (hi : i < p.length) : rdOf ByteArray.empty (putT p top d left w c) (i : Int) = if top ≤ i ∧ i < top + d then strOfNums (rowPut (rdOf ByteArray.empty p (i : Int)) left w c) else rdOf ByteArray.empty p (i : Int) := rdOf_map _ hi
theorem rdOf_get {p : List ByteArray} {i : Nat} (hi : i < p.length) : rdOf ByteArray.empty p (i : Int) = p[i] := by
  unfold rdOf
  rw [Int.toNat_natCast, List.getD_eq_getElem?_getD, List.getElem?_eq_getElem hi]
  rfl
theorem putT_zero (p : List ByteArray) (top left w : Nat) (c : Int) : putT p top 0 left w c = p := by
  apply List.ext_getElem
  · exact putT_len ..
  · intro i h1 h2
    have := putT_get p top 0 left w c i h2
    rw [if_neg (by omega), rdOf_get h1, rdOf_get h2] at this
    exact this
theorem putT_more (p : List ByteArray) (top d left w : Nat) (c : Int) : (putT p top d left w c).set (top + d) (strOfNums (rowPut (rdOf ByteArray.empty p ((top + d : Nat) : Int)) left w c)) = putT p top (d + 1) left w c := by
  apply List.ext_getElem
  · rw [List.length_set, putT_len, putT_len]
  · intro i h1 h2
    have hi : i < p.length := by rw [putT_len] at h2; exact h2
    have g1 := putT_get p top d left w c i hi
    have g2 := putT_get p top (d + 1) left w c i hi
    rw [rdOf_get (by rw [putT_len]; exact hi)] at g1 g2
    rw [List.getElem_set, g2]
    by_cases e : top + d = i
    · subst e
      rw [if_pos rfl, if_pos (by omega)]
    · rw [if_neg e, g1]
      by_cases e2 : top ≤ i ∧ i < top + d
      · rw [if_pos e2, if_pos (by omega)]
      · rw [if_neg e2, if_neg (by omega)]
def BytesAt (W : World) (g : Nat) (xs : List Int) : Prop := ∃ cs : Array Value, W.heap[g]? = some (.cells cs 5 (cs.size, cs.size + 1)) ∧ xs.length ≤ cs.size ∧ ∀ j, j < xs.length → cs[j]? = some (.int .u8 (xs.getD j 0))
theorem BytesAt.cell {W : World} {g : Nat} {xs : List Int} (h : BytesAt W g xs) {j : Nat} (hj : j < xs.length) : W.cell? ⟨g, j, none⟩ = some (.int .u8 (xs.getD j 0)) ∧ W.frozen? ⟨g, j, none⟩ = false := by
  obtain ⟨cs, h1, h2, h3⟩ := h
  refine ⟨?_, ?_⟩
  · unfold World.cell?
    rw [h1]
    exact h3 j hj
  · unfold World.frozen?
    rw [h1]
    simp
    omega
theorem BytesAt.put {W : World} {g : Nat} {xs : List Int} (h : BytesAt W g xs) (j : Nat) (x : Int) (hj : j < xs.length) : BytesAt (W.setCell ⟨g, j, none⟩ (.int .u8 x)) g (xs.set j x) := by
  obtain ⟨cs, h1, h2, h3⟩ := h
  refine ⟨cs.setIfInBounds j (.int .u8 x), ?_, by rw [List.length_set, Array.size_setIfInBounds]; exact h2, fun i hi => ?_⟩
  · rw [Array.size_setIfInBounds]
    simp [World.setCell, Array.getElem?_modify, h1]
  · rw [List.length_set] at hi
    rw [Array.getElem?_setIfInBounds]
    by_cases e : j = i
    · subst e
      rw [if_pos rfl, if_pos (by omega), List.getD_eq_getElem?_getD, List.getElem?_set_self hj]; rfl
    · rw [if_neg e, h3 i hi, List.getD_eq_getElem?_getD, List.getD_eq_getElem?_getD, List.getElem?_set_ne e]
theorem bytesAt_new (W : World) (s : ByteArray) : BytesAt (Lib.bytesWorld W 5 s) W.heap.size (bytesOf s) := by
  refine ⟨_, Lib.bytesWorld_at_new W 5 s, ?_, fun j hj => ?_⟩
  · rw [bytesOf_length]
    unfold Lib.bytesCells
    rw [Array.size_append, Array.size_map]
    exact Nat.le_add_right _ _
  · rw [bytesOf_length] at hj
    have h := Lib.bytesWorld_cell W 5 s j hj
    unfold World.cell? at h
    rw [Lib.bytesWorld_at_new] at h
    rw [show (bytesOf s).getD j 0 = ((s.data.toList.getD j 0).toNat : Int) by
      have h' : j < s.data.toList.length := by rw [data_length]; exact hj
      simp [bytesOf, List.getD_eq_getElem?_getD, List.getElem?_eq_getElem h']]
    exact h
set_option maxRecDepth 100000 in
set_option maxHeartbeats 8000000 in
theorem l1Put_any (A : Option Addr) (cap : Nat) (p : List ByteArray) (top left h wd : Nat) (c : Int) (hp : p.length ≤ 100) (h1 : top + h ≤ p.length) (hpos : 1 ≤ p.length) (h2 : ∀ i, i < p.length → left + wd ≤ (rdOf ByteArray.empty p (i : Int)).size ∧ (rdOf ByteArray.empty p (i : Int)).size ≤ 100) (hcc : 0 ≤ c ∧ c ≤ 255) (w : World) (hr0 : Kd.C Kd.string w A p.length p) (hc0 : p.length ≤ cap) :
    Calls Try.prog 229 #[.slice A p.length cap, .int .i64 top, .int .i64 left, .int .i64 h, .int .i64 wd, .int .u8 c] w fun e w' => (∃ g c', e = .returned (.slice (some ⟨g, 0, none⟩) p.length c') ∧ w'.ownsRow w.heap.size 9 1 (.slice (some ⟨g, 0, none⟩) p.length c') p.length (encs Value.string (putT p top h left wd c))) ∧ Below w.heap.size w w' := by
  have HR := Aside0.mk (Kd.reads_of_C (enc := Value.string) (d := ByteArray.empty) (h1 := fun _ => rfl) hr0)
  have H2 := Aside0.mk h2
  have hc1 := hcc.1
  have hc2 := hcc.2
  have HO0 : Aside0 ((w.alloc (.cells #[] 9)).ownsRow w.heap.size 9 1 (.slice (some ⟨w.heap.size, 0, none⟩) 0 0) 0 (encs Value.string [])) := ⟨own_lit_of (enc := Value.string) w w.heap.size 9 [] (Nat.le_refl _) (by simp)⟩
  have HB0 : Aside0 (Below w.heap.size w (w.alloc (.cells #[] 9))) := ⟨(Below.refl _ _).alloc (Nat.le_refl _) _⟩
  clear hr0 h2 hcc
  go_enter Try.func229, Try.ntmps229
  go_wp2_with (at_builtin; refine print_append_row_of (w0 := w) (enc := Value.string) (d := ByteArray.empty) w.heap.size rfl (.tmp 17) (.tmp 18) 22 9 (.string ⟨#[]⟩) 16 rfl Try.underlying22 (by kernel_rfl) rfl (by omega) (fun _ => rfl) _ [] p A p.length cap rfl rfl ?k1 ?k4 ?k3 ?k2 ?k5 ?_; (case k1 => exact HO0.out); (case k4 => exact HR.out.below HB0.out); (case k3 => exact HB0.out); (case k2 => exact HB0.out.size); (case k5 => simp; omega); intro v1 w1 ho hB hg hat; have HO1 := Aside0.mk ho; have HB1 := Aside0.mk hB; clear ho hB hg hat)
  obtain ⟨g, c1, hv1, _, _⟩ := HO1.out.form (by simp; omega)
  subst hv1
  have HO2 : Aside0 (w1.ownsRow w.heap.size 9 1 (.slice (some ⟨g, 0, none⟩) p.length c1) p.length (encs Value.string p)) := ⟨by have := HO1.out; simpa using this⟩
  have hpl : ([] ++ p : List ByteArray).length = p.length := by simp
  rw [hpl]
  clear HO1 hpl
  go_loopw [14] (fun i wr => ∃ m : Nat, i = .int .i64 ((top + m : Nat) : Int) ∧ m ≤ h ∧ Aside0 (wr.ownsRow w.heap.size 9 1 (.slice (some ⟨g, 0, none⟩) p.length c1) p.length (encs Value.string (putT p top m left wd c)) ∧ Below w.heap.size w wr)) (fun i _ => top + h - (intOf i).toNat)
  case atStart => exact ⟨0, rfl, Nat.zero_le _, ⟨by rw [putT_zero]; exact HO2.out, HB1.out⟩⟩
  case round =>
    obtain ⟨m, rfl, hm, HD⟩ := hrel
    obtain ⟨wo, rfl⟩ : ∃ wo : World, wo = wr := ⟨_, rfl⟩
    by_cases hlt : m < h
    · obtain ⟨crow, frow⟩ := own_at_of (d := ByteArray.empty) HD.out.1 ((top + m : Nat) : Int) (by omega) (by omega)
      rw [putT_get p top m left wd c (top + m) (by omega), if_neg (by omega), Int.toNat_natCast] at crow
      rw [Int.toNat_natCast] at frow
      have hs2 := H2.out (top + m) (by omega)
      obtain ⟨s, hs⟩ : ∃ s, rdOf ByteArray.empty p ((top + m : Nat) : Int) = s := ⟨_, rfl⟩
      rw [hs] at crow hs2
      have HS := Aside0.mk hs
      have hs3 := hs2.1
      have hs4 := hs2.2
      have kb := fun W => print_bytes (P := Try.prog) 9 29 5 Try.underlying9 Try.underlying29 Try.underlying5 s W
      have HBY : Aside0 (BytesAt (Lib.bytesWorld wo 5 s) wo.heap.size (rowPut s left 0 c)) := ⟨by rw [rowPut_zero]; exact bytesAt_new wo s⟩
      have HBW : Aside0 (Below wo.heap.size wo (Lib.bytesWorld wo 5 s)) := ⟨bytes_below (Below.refl _ _) (Nat.le_refl _) 5 s⟩
      obtain ⟨cx, hcx⟩ : ∃ cx, grownCap wo s.size 0 5 = cx := ⟨_, rfl⟩
      clear hs hs2
      go_wp2_with fail
      try rw [hcx]
      clear kb hcx crow frow
      go_loopw [16] (fun i w2 => ∃ j : Nat, i = .int .i64 ((left + j : Nat) : Int) ∧ j ≤ wd ∧ Aside0 (BytesAt w2 wo.heap.size (rowPut s left j c) ∧ Below wo.heap.size wo w2)) (fun i _ => left + wd - (intOf i).toNat)
      case atStart => exact ⟨0, rfl, Nat.zero_le _, ⟨HBY.out, HBW.out⟩⟩
      case round =>
        obtain ⟨j, rfl, hj, HE⟩ := hrel
        by_cases hjl : j < wd
        · obtain ⟨cx1, fx1⟩ := HE.out.1.cell (j := left + j) (by rw [rowPut_len]; omega)
          go_wp2_with fail
          refine ⟨⟨j + 1, by push_cast; rfl, by omega, ⟨?_, HE.out.2.setCell (p := ⟨wo.heap.size, left + j, none⟩) (Nat.le_refl _) _⟩⟩, by simp [intOf]; omega⟩
          rw [← rowPut_more]
          exact HE.out.1.put (left + j) c (by rw [rowPut_len]; omega)
        · have hje : j = wd := by omega
          subst hje
          have hcv : (convert 29 9 (.slice (some ⟨wo.heap.size, 0, none⟩) s.size cx)).run Try.prog wr = .ok (.string (strOfNums (rowPut s left j c))) wr := by
            refine run_convert_bytes_arg wr 29 5 Try.underlying29 Try.underlying5 wo.heap.size 0 s.size cx (rowPut s left j c) (rowPut_len _ _ _ _) (fun i hi => ?_) 9 Try.underlying9
            rw [Nat.zero_add]
            exact (HE.out.1.cell (j := i) (by rw [rowPut_len]; exact hi)).1
          have HOW := Aside0.mk (pw_own_below HD.out.1 HE.out.2)
          obtain ⟨crow, frow⟩ := own_at_of (d := ByteArray.empty) HOW.out ((top + m : Nat) : Int) (by omega) (by omega)
          rw [Int.toNat_natCast] at crow frow
          go_wp2_with fail
          go_roundw
          case rel =>
            refine ⟨m + 1, by go_num, by omega, ⟨?_, ?_⟩⟩
            · have := (own_store_of (enc := Value.string) HOW.out ((top + m : Nat) : Int) (strOfNums (rowPut s left j c))).1
              rw [Int.toNat_natCast, ← HS.out, putT_more, HS.out] at this
              exact this
            · exact (HD.out.2.trans (HE.out.2.mono HD.out.2.size)).setCell (p := ⟨g, top + m, none⟩) (own_base HOW.out g rfl) _
          case measure => simp [intOf]; omega
    · have hme : m = h := by omega
      subst hme
      go_wp2_with fail
      go_ret
      exact ⟨⟨g, c1, rfl, HD.out.1⟩, HD.out.2⟩
end Go.Proofs.Ytdhnjecbdclmaaa
