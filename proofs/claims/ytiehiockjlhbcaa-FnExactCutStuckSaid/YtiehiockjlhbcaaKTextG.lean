/- The program's text of a floor: its rows as texts. Conditions: numbers of at most 100, few rows. -/
import Derived.Test.YtiehiockjlhbcaaKBuild
namespace Go.Proofs.Ytiehiockjlhbcaa
open Go.RowKit Go.Shelf Go.Proofs.YtiehiockjlhbcaaW.PrintWords Go.Proofs.YtiehiockjlhbcaaW.PrintMore
set_option linter.unusedVariables false

def letOf (k : Int) : UInt8 := UInt8.ofNat (97 + k).toNat
def rowBytes (row : List Int) : List UInt8 := row.map letOf
def rowText (row : List Int) : ByteArray := ⟨(rowBytes row).toArray⟩
theorem letOf_val {k : Int} (h : 0 ≤ k ∧ k ≤ 100) : ((letOf k).toNat : Int) = 97 + k := by
  unfold letOf
  rw [UInt8.toNat_ofNat']
  omega
theorem byteCells_let {k : Int} (h : 0 ≤ k ∧ k ≤ 100) (l : List UInt8) : Lib.byteCells (l ++ [letOf k]) = Lib.byteCells l ++ [.int .u8 (97 + k)] := by
  unfold Lib.byteCells
  rw [List.map_append]
  simp only [List.map_cons, List.map_nil]
  rw [letOf_val h]
/-- Texts, the others empty. -/
def StrsAt (W : World) (ob : Nat) (n : Nat) (ss : List ByteArray) : Prop := W.heap[ob]? = some (Obj.cells (ss.map Value.string ++ List.replicate (n - ss.length) (Value.string ⟨#[]⟩)).toArray 9 (0, 0))
theorem StrsAt.put {W : World} {ob n : Nat} {ss : List ByteArray} (h : StrsAt W ob n ss) (hn : ss.length < n) (s : ByteArray) : StrsAt (W.setCell ⟨ob, ss.length, none⟩ (.string s)) ob n (ss ++ [s]) := by
  unfold StrsAt at *
  rw [blk_set h ss.length _]
  congr 2
  rw [List.setIfInBounds_toArray]
  congr 1
  rw [List.set_append_right _ _ (by simp), List.length_map, Nat.sub_self, show n - ss.length = (n - ss.length - 1) + 1 by omega, List.replicate_succ, List.set_cons_zero, List.map_append, List.append_assoc]
  congr 1
  rw [List.length_append, show n - (ss.length + [s].length) = n - ss.length - 1 by simp; omega]
  simp
theorem GridAt.below {W W' : World} {g n : Nat} {rows : List (Nat × List Int)} (h : GridAt W g n rows) (hb : Below W.heap.size W W') : GridAt W' g n rows :=
  ⟨by rw [hb.block g (Array.getElem?_eq_some_iff.1 h.1).1]; exact h.1, fun x hx => by have hr := h.2 x hx; unfold IntRow at *; rw [hb.block _ (Array.getElem?_eq_some_iff.1 hr).1]; exact hr⟩

set_option maxRecDepth 100000 in
set_option maxHeartbeats 16000000 in
theorem text_any (fb g h : Nat) (rv : Value) (rows : List (Nat × List Int)) (w : World) (hf : w.heap[fb]? = some (Obj.cells #[.slice (some ⟨g, 0, none⟩) h h, rv] 61 (0, 0))) (hg : GridAt w g h rows) (hl : rows.length = h) (hh : h ≤ 100) (hk : ∀ x ∈ rows, x.2.length ≤ 100 ∧ ∀ k ∈ x.2, (0 : Int) ≤ k ∧ k ≤ 100) :
    Calls Try.prog 96 #[.pointer (some ⟨fb, 0, none⟩)] w fun e w' => e = .returned (.slice (some ⟨w.heap.size, 0, none⟩) h h) ∧ StrsAt w' w.heap.size h ((rows.map Prod.snd).map rowText) ∧ Below w.heap.size w w' := by
  have mk1 : ∀ W : World, (Instr.makeSlice 22 (.int .i64 (h : Int)) (.int .i64 (h : Int))).run Try.prog W = .ok (.slice (some ⟨W.heap.size, 0, none⟩) h h) (W.alloc (.cells (madeCells #[.string ⟨#[]⟩] h) 9)) :=
    fun W => run_make_row' 22 9 (.string ⟨#[]⟩) 16 Try.underlying22 (by kernel_rfl) rfl .i64 .i64 h (by omega) (by omega) W
  have cf : w.cell? ⟨fb, 0, none⟩ = some (.slice (some ⟨g, 0, none⟩) h h) := by rw [Lib.cell_of_heap hf]; rfl
  have HHI : Aside0 (Calls Try.prog 85 #[.pointer (some ⟨fb, 0, none⟩)] w fun e w' => e = .returned (.int .i64 h) ∧ w' = w) := ⟨high_any _ _ h h w cf⟩
  have hfl : fb < w.heap.size := (Array.getElem?_eq_some_iff.1 hf).1
  have HG := Aside0.mk hg
  have HL := Aside0.mk hl
  have HK := Aside0.mk hk
  clear hg hl hk hf
  go_enter Try.func96, Try.ntmps96
  go_wp2_with fail
  refine HHI.out.mono ?_
  rintro e w' ⟨rfl, rfl⟩
  have ca : (w'.alloc (.cells (madeCells #[.string ⟨#[]⟩] h) 9)).cell? ⟨fb, 0, none⟩ = some (.slice (some ⟨g, 0, none⟩) h h) := (World.cell?_of_block (Below.heap_alloc _ _ _ hfl)).trans cf
  go_wp2_with fail
  go_loopw [17] (fun i wr => ∃ r : Nat, i = .int .i64 r ∧ r ≤ h ∧ Aside0 (StrsAt wr w'.heap.size h (((rows.take r).map Prod.snd).map rowText) ∧ Below w'.heap.size w' wr)) (fun i _ => h - (intOf i).toNat)
  case atStart =>
    refine ⟨0, rfl, Nat.zero_le _, ⟨?_, (Below.refl _ _).alloc (Nat.le_refl _) _⟩⟩
    unfold StrsAt
    rw [heap_alloc_new, made_rep]; rfl
  case round =>
    obtain ⟨r, rfl, hr, HD⟩ := hrel
    obtain ⟨wo, rfl⟩ : ∃ wo : World, wo = wr := ⟨_, rfl⟩
    have hr0 : (0 : Int) ≤ (r : Int) := by omega
    by_cases hlt : (r : Int) < (h : Int)
    · have hrl : r < rows.length := by rw [HL.out]; omega
      obtain ⟨⟨rb, row⟩, hrow⟩ : ∃ x, rows[r] = x := ⟨_, rfl⟩
      have hmem : (rb, row) ∈ rows := by rw [← hrow]; exact List.getElem_mem hrl
      have hk := HK.out _ hmem
      dsimp only at hk
      have hgo := HG.out.below HD.out.2
      have crow : wo.cell? ⟨g, r, none⟩ = some (.slice (some ⟨rb, 0, none⟩) row.length row.length) := hgo.cell r _ (by
        rw [List.getElem?_append_left (by rw [List.length_map]; exact hrl), List.getElem?_map, List.getElem?_eq_getElem hrl, hrow]; rfl)
      have hlen := hk.1
      have HKK := Aside0.mk hk.2
      have HIR : Aside0 (IntRow wo rb row) := ⟨hgo.2 _ hmem⟩
      have HROW := Aside0.mk hrow
      have HOB : Aside0 (w'.heap.size < wo.heap.size) := ⟨(Array.getElem?_eq_some_iff.1 HD.out.1).1⟩
      clear hgo hk hmem hrow
      go_wp2_with fail
      go_loopw [24] (fun i w2 => ∃ j : Nat, i = .int .i64 j ∧ j ≤ row.length ∧ Aside0 (IsB wo.heap.size wo.heap.size (Lib.byteCells (rowBytes (row.take j))) w2) ∧ Aside0 (Below wo.heap.size wo w2)) (fun i _ => row.length - (intOf i).toNat)
      case atStart => exact ⟨0, rfl, Nat.zero_le _, ⟨Lib.fresh_isBuilder 109 5 wo⟩, ⟨(Below.refl _ _).alloc (Nat.le_refl _) _⟩⟩
      case round =>
        obtain ⟨j, rfl, hj, HB, HBL⟩ := hrel
        have hj0 : (0 : Int) ≤ (j : Int) := by omega
        by_cases hjl : (j : Int) < (row.length : Int)
        · have hjr : j < row.length := by omega
          have cx : wr.cell? ⟨rb, j, none⟩ = some (.int .i64 row[j]) := (HBL.out.cell (p := ⟨rb, j, none⟩) (Array.getElem?_eq_some_iff.1 HIR.out).1).trans (HIR.out.cell j hjr)
          have hkb := HKK.out _ (List.getElem_mem hjr)
          obtain ⟨k, hkk⟩ : ∃ k, row[j] = k := ⟨_, rfl⟩
          rw [hkk] at cx hkb
          have hk0 := hkb.1
          have hk1 := hkb.2
          have HKV := Aside0.mk hkk
          have hS := HBL.out.size
          clear hkk hkb
          go_wp2_with (go_at_call 107; refine (writeByte_any wo.heap.size wo.heap.size _ _ _ HB.out (by unfold Lib.byteCells rowBytes; rw [List.length_map, List.length_map, List.length_take]; omega) (by omega)).mono ?_; rintro e w3 ⟨rfl, hB3, hb3⟩)
          refine ⟨⟨j + 1, by push_cast; rfl, by omega, ⟨?_⟩, ⟨HBL.out.trans hb3⟩⟩, by simp [intOf]; omega⟩
          have hb : rowBytes (row.take (j + 1)) = rowBytes (row.take j) ++ [letOf k] := by
            unfold rowBytes
            rw [List.take_succ_eq_append_getElem hjr, List.map_append, HKV.out]; rfl
          rw [hb, byteCells_let ⟨hk0, hk1⟩]
          exact hB3
        · have hjr : j = row.length := by omega
          have hB2 := HB.out
          rw [hjr, List.take_length] at hB2
          have HB2 := Aside0.mk hB2
          have hS := HBL.out.size
          have HJR := Aside0.mk hjr
          clear hB2 hjr HB
          obtain ⟨tx, htx⟩ : ∃ tx, rowBytes row = tx := ⟨_, rfl⟩
          rw [htx] at HB2
          have HTX := Aside0.mk htx
          clear htx
          have hc0 : wo.heap[w'.heap.size]? = some (Obj.cells ((((rows.take r).map Prod.snd).map rowText).map Value.string ++ List.replicate (h - (((rows.take r).map Prod.snd).map rowText).length) (Value.string ⟨#[]⟩)).toArray 9 (0, 0)) := HD.out.1
          have hle : (((rows.take r).map Prod.snd).map rowText).length = r := by simp; omega
          have hcs : ∀ W, Below wo.heap.size wo W → W.cell? ⟨w'.heap.size, r, none⟩ = some (.string ⟨#[]⟩) ∧ W.frozen? ⟨w'.heap.size, r, none⟩ = false := fun W hW => by
            have h1 := (hW.block w'.heap.size HOB.out).trans hc0
            refine ⟨?_, Lib.frozen_of_heap h1 r⟩
            rw [Lib.cell_of_heap h1]
            revert hle
            generalize ((rows.take r).map Prod.snd).map rowText = ss
            intro hle
            rw [List.getElem?_toArray, List.getElem?_append_right (by rw [List.length_map, hle]; exact Nat.le_refl _), List.length_map, hle, Nat.sub_self, List.getElem?_replicate, if_pos (by omega)]
          have HCS := Aside0.mk hcs
          have HLE := Aside0.mk hle
          clear hcs hc0 hle
          go_wp2_with fail
          refine Calls.mono (Try.Builder_String_any wo.heap.size wo.heap.size tx _ HB2.out (by omega)) ?_
          rintro e w4 ⟨rfl, hb4⟩
          have HB4 : Aside0 (Below wo.heap.size wo w4) := ⟨HBL.out.trans hb4⟩
          have cs1 := (HCS.out w4 HB4.out).1
          have cs2 := (HCS.out w4 HB4.out).2
          clear hb4
          go_wp2_with fail
          go_roundw
          case rel =>
            refine ⟨r + 1, by go_num, by omega, ⟨?_, ?_⟩⟩
            · have h4 : StrsAt w4 w'.heap.size h (((rows.take r).map Prod.snd).map rowText) := by
                unfold StrsAt
                rw [HB4.out.block w'.heap.size HOB.out]
                exact HD.out.1
              have h5 := h4.put (by rw [HLE.out]; omega) (rowText row)
              rw [HLE.out] at h5
              have h6 : ((rows.take (r + 1)).map Prod.snd).map rowText = ((rows.take r).map Prod.snd).map rowText ++ [rowText row] := by
                rw [List.take_succ_eq_append_getElem hrl, List.map_append, List.map_append, HROW.out]; rfl
              rw [h6]
              have h7 : rowText row = ⟨tx.toArray⟩ := by unfold rowText; rw [HTX.out]
              rw [h7] at h5 ⊢
              exact h5
            · exact (HD.out.2.trans (HB4.out.mono (Nat.le_of_lt HOB.out))).setCell (p := ⟨w'.heap.size, r, none⟩) (Nat.le_refl _) _
          case measure => simp [intOf]; omega
    · have hrh : r = h := by omega
      have hD1 := HD.out.1
      rw [List.take_of_length_le (by rw [HL.out]; omega)] at hD1
      have HD1 := Aside0.mk hD1
      clear hD1
      go_wp2_with fail
      go_ret
      exact ⟨rfl, (by rw [← List.map_map]; exact HD1.out), HD.out.2⟩
end Go.Proofs.Ytiehiockjlhbcaa
