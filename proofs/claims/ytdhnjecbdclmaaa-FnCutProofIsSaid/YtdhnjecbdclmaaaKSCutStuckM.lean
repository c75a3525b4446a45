/- Texts of this claim's, joined by a program: SCutStuck, SStuckBy. -/
import Derived.Test.YtdhnjecbdclmaaaKSPlanDrawM
section
namespace Go.Proofs.Ytdhnjecbdclmaaa
open Go.RowKit Go.Shelf Go.Proofs.YtdhnjecbdclmaaaW.PrintWords Go.Proofs.YtdhnjecbdclmaaaW.PrintMore
set_option linter.unusedVariables false
set_option linter.unusedSimpArgs false
theorem list_pos {cl : Nat → Nat → Int} {boxes : List Box} {h wd r c ph pw : Nat} (f : Flat cl boxes h wd) (hw : Whole cl h wd r c ph pw) : 0 < (listL boxes (natB r c ph pw) boxes.length).length := by
  have hs := hw.some
  have := (listL_iff f hw (cl r c)).2 ⟨r, c, ⟨⟨Nat.le_refl _, by omega⟩, Nat.le_refl _, by omega⟩, rfl⟩
  exact List.length_pos_of_mem this
set_option maxRecDepth 100000 in
set_option maxHeartbeats 8000000 in
theorem cutStuck_any (A : Option Addr) (cap : Nat) (p : List ByteArray) (hp : SmallP p) (w : World) (hr0 : Kd.C Kd.string w A p.length p) (hc0 : p.length ≤ cap) :
    Calls Try.prog 40 #[.slice A p.length cap] w fun e w' => (∃ A' c', e = .returned (.tuple #[.slice A' (cutStuckP p).length c', .bool (decide (0 < (cutStuckP p).length))]) ∧ w'.ownsRow w.heap.size 3 1 (.slice A' (cutStuckP p).length c') (cutStuckP p).length (nums .i64 (cutStuckP p))) ∧ Below w.heap.size w w' := by
  have HFL := floorOf_any A cap p hp.1 hp.2 w hr0 hc0
  clear hr0
  go_enter Try.func40, Try.ntmps40
  go_wp2_with fail
  refine HFL.mono ?_
  rintro e w1 ⟨hb1, ⟨hpl, fb, base, rfl, hbase, hfl⟩ | ⟨hpl, o, rfl⟩⟩
  · have HB1 := Aside0.mk hb1
    have F := Aside0.mk (planFlat hpl)
    have hR := hfl.reads
    have hh := (planFlat hpl).high
    have hw := (planFlat hpl).wide
    have hv : cutStuckP p = stuckRooms p := by unfold cutStuckP; rw [if_pos hpl]
    have HWH := Aside0.mk (fun W (hW : Below w1.heap.size w1 W) => whole_any fb p.length (wdP p) (clP p) (boxesP p) W (hR.below hW) (by omega) (by omega))
    have HSK := Aside0.mk (fun W (hW : Below w1.heap.size w1 W) => stuck_any fb p.length (wdP p) (clP p) (boxesP p) hh.2 hw.2 F.out.boxIn F.out.few 13 (by omega) 0 0 p.length (wdP p) (by omega) (by omega) (by omega) W (hR.below hW))
    have HRR := Aside0.mk hR
    have hwh := stuck_whole F.out 13 0 0 p.length (wdP p) F.out.whole
    cases hRo : stuckL (clP p) (boxesP p) 13 (0, 0, p.length, wdP p) with
    | none =>
      have hval : stuckRooms p = [] := by unfold stuckRooms stuckO; rw [hRo]
      rw [hval] at hv
      have HV := Aside0.mk hv
      rw [hRo] at HSK
      clear hb1 hpl hfl hR hv hwh hRo hval
      go_wp2_with fail
      refine (HWH.out _ (Below.refl _ _)).mono ?_
      rintro e w2 ⟨rfl, hb2⟩
      have HB2 := Aside0.mk hb2
      clear hb2
      go_wp2_with fail
      refine (HSK.out _ HB2.out).mono ?_
      rintro e w3 ⟨rfl, hb3⟩
      have HB3 := Aside0.mk (HB2.out.trans (hb3.mono HB2.out.size))
      clear hb3
      simp only [stuckV, stuckC, noPart, Option.isSome_none]
      go_wp2_with fail
      go_ret2
      rw [HV.out]
      exact ⟨⟨_, _, rfl, World.ownsRow_nil _ _ _ _⟩, HB1.out.trans ((HB3.out.alloc HB3.out.size _).mono HB1.out.size)⟩
    | some R =>
      have hwR := hwh R hRo
      have hrow := hwR.row
      have hcol := hwR.col
      have hval : stuckRooms p = listL (boxesP p) (boxR R) (boxesP p).length := by unfold stuckRooms stuckO; rw [hRo]
      have hpos : 0 < (listL (boxesP p) (boxR R) (boxesP p).length).length := list_pos F.out hwR
      rw [hval] at hv
      have HLI := Aside0.mk (fun W (hW : Below w1.heap.size w1 W) => list_own fb p.length (wdP p) (clP p) (boxesP p) W (HRR.out.below hW) (boxR R) (boxIn_nat (by omega) (by omega) (by omega) (by omega)) F.out.boxIn (by have := F.out.few; omega))
      rw [hRo] at HSK
      obtain ⟨L, hL⟩ : ∃ L, listL (boxesP p) (boxR R) (boxesP p).length = L := ⟨_, rfl⟩
      rw [hL] at HLI hpos hv
      have HV := Aside0.mk hv
      have HP := Aside0.mk (decide_eq_true hpos)
      clear hb1 hpl hfl hR hv hwh hRo hval hwR hrow hcol hL hpos
      go_wp2_with fail
      refine (HWH.out _ (Below.refl _ _)).mono ?_
      rintro e w2 ⟨rfl, hb2⟩
      have HB2 := Aside0.mk hb2
      clear hb2
      go_wp2_with fail
      refine (HSK.out _ HB2.out).mono ?_
      rintro e w3 ⟨rfl, hb3⟩
      have HB3 := Aside0.mk (HB2.out.trans (hb3.mono HB2.out.size))
      clear hb3
      simp only [stuckV, stuckC, partCells, Option.isSome_some]
      go_wp2_with fail
      unfold partV at HLI
      have hb6 := HB3.out.alloc HB3.out.size (.cells #[.pointer (some ⟨fb, 0, none⟩), .int .i64 (boxR R).1, .int .i64 (boxR R).2.1, .int .i64 (boxR R).2.2.1, .int .i64 (boxR R).2.2.2] 58)
      refine (HLI.out _ hb6).mono ?_
      rintro e w7 ⟨⟨A2, c2, rfl, ho7⟩, hb7⟩
      have HB7 := Aside0.mk (hb6.trans (hb7.mono hb6.size))
      have HO7 := Aside0.mk ho7
      have HS7 : Aside0 (w.heap.size ≤ (w3.alloc (.cells #[.pointer (some ⟨fb, 0, none⟩), .int .i64 (boxR R).1, .int .i64 (boxR R).2.1, .int .i64 (boxR R).2.2.1, .int .i64 (boxR R).2.2.2] 58)).heap.size) := ⟨Nat.le_trans HB1.out.size hb6.size⟩
      clear hb6 hb7 ho7
      go_wp2_with fail
      go_ret2
      rw [HV.out, HP.out]
      exact ⟨⟨_, _, rfl, own_weaken HO7.out HS7.out⟩, HB1.out.trans (HB7.out.mono HB1.out.size)⟩
  · have HB1 := Aside0.mk hb1
    have hv : cutStuckP p = [] := by unfold cutStuckP; rw [hpl]; rfl
    have HV := Aside0.mk hv
    clear hb1 hpl hv
    go_wp2_with fail
    go_ret2
    rw [HV.out]
    exact ⟨⟨_, _, rfl, World.ownsRow_nil _ _ _ _⟩, HB1.out⟩
def cutStuckV (p : List ByteArray) : List Int × Bool := (cutStuckP p, decide (0 < (cutStuckP p).length))
theorem cutStuckV_len (p : List ByteArray) : (cutStuckV p).1.length ≤ 1000 := by
  unfold cutStuckV cutStuckP
  by_cases h : planG p = true
  · rw [if_pos h]
    have f := planFlat h
    have := f.few
    have h2 := outK_len (boxesP p) (stuckO p) (boxesP p).length
    rw [outK_rooms] at h2
    show (stuckRooms p).length ≤ 1000
    omega
  · rw [if_neg h]; exact Nat.zero_le _
def impl_CutStuck.f (l0 : List ByteArray) : Option (List Int × Bool) := if SmallP l0 then some (cutStuckV l0) else none
theorem impl_CutStuck.calls (A0 : Option Addr) (c0 : Nat) (l0 : List ByteArray) (r1 : List Int) (r2 : Bool) (w : World) (hr0 : Kd.C Kd.string w A0 l0.length l0) (hc0 : l0.length ≤ c0) (h : impl_CutStuck.f l0 = some (r1, r2)) :
    Calls Try.prog 40 #[.slice A0 l0.length c0] w fun e w' => ∃ v0_ : Value, e = .returned (.tuple #[v0_, .bool r2]) ∧ Kd.R (Kd.int .i64) 3 w' w.heap.size (fun _ => True) v0_ r1 ∧ Below w.heap.size w w' := by
  unfold impl_CutStuck.f at h
  split at h
  · rename_i hb
    injection h with h
    unfold cutStuckV at h
    injection h with h1 h2
    refine (cutStuck_any A0 c0 l0 hb w hr0 hc0).mono fun e w' ⟨⟨A', c', he, ho⟩, hbw⟩ => ?_
    rw [h1] at he ho
    rw [h1] at h2
    rw [h2] at he
    exact ⟨_, he, Kd.R_of_own ho (fun _ _ => trivial), hbw⟩
  · cases h
def spec_CutStuck.f (l0 : List ByteArray) : Option (List Int × Bool) := if SmallP l0 then some (cutStuckV l0) else none
theorem spec_CutStuck.calls (A0 : Option Addr) (c0 : Nat) (l0 : List ByteArray) (r1 : List Int) (r2 : Bool) (w : World) (hr0 : Kd.C Kd.string w A0 l0.length l0) (hc0 : l0.length ≤ c0) (h : spec_CutStuck.f l0 = some (r1, r2)) :
    Calls Try.prog 41 #[.slice A0 l0.length c0] w fun e w' => ∃ v0_ : Value, e = .returned (.tuple #[v0_, .bool r2]) ∧ Kd.R (Kd.int .i64) 3 w' w.heap.size (fun _ => True) v0_ r1 ∧ Below w.heap.size w w' := by
  unfold spec_CutStuck.f at h
  split at h
  · rename_i hb
    injection h with h
    unfold cutStuckV at h
    injection h with h1 h2
    refine (specCutStuck_any A0 c0 l0 hb w hr0 hc0).mono fun e w' ⟨⟨A', c', he, ho⟩, hbw⟩ => ?_
    rw [h1] at he ho
    rw [h1] at h2
    rw [h2] at he
    exact ⟨_, he, Kd.R_of_own ho (fun _ _ => trivial), hbw⟩
  · cases h
end Go.Proofs.Ytdhnjecbdclmaaa
end
section
namespace Go.Proofs.Ytdhnjecbdclmaaa
open Go.RowKit Go.Shelf Go.Proofs.YtdhnjecbdclmaaaW.PrintWords Go.Proofs.YtdhnjecbdclmaaaW.PrintMore
set_option linter.unusedVariables false
set_option linter.unusedSimpArgs false
def BoxFl (h wd : Nat) (B : Box) : Prop := ∃ r c ph pw : Nat, B = natB r c ph pw ∧ 1 ≤ ph ∧ 1 ≤ pw ∧ r + ph ≤ h ∧ c + pw ≤ wd
theorem set4 {w : World} {b : Nat} {T : TypeId} {v0 v1 v2 v3 v4 : Value} (h : w.heap[b]? = some (.cells #[v0, v1, v2, v3, v4] T (0, 0))) (u1 u2 u3 u4 : Value) (W : World) (hW : W = (((w.setCell ⟨b, 1, none⟩ u1).setCell ⟨b, 2, none⟩ u2).setCell ⟨b, 3, none⟩ u3).setCell ⟨b, 4, none⟩ u4) :
    W.heap[b]? = some (.cells #[v0, u1, u2, u3, u4] T (0, 0)) ∧ (∀ k, k ≠ b → W.heap[k]? = w.heap[k]?) ∧ W.heap.size = w.heap.size ∧ ∀ B a, B ≤ b → Below B a w → Below B a W := by
  subst hW
  refine ⟨?_, fun k hk => ?_, by simp [World.setCell], fun B a hB hb => ?_⟩
  · have := Go.Joins.block_setCell (i := 4) (Go.Joins.block_setCell (i := 3) (Go.Joins.block_setCell (i := 2) (Go.Joins.block_setCell (i := 1) h u1) u2) u3) u4
    simpa using this
  · iterate 4 rw [Below.heap_setCell _ _ _ _ (by simpa using hk)]
  · iterate 4 refine Below.setCell ?_ (by simpa using hB) _
    exact hb
theorem RI_move {w W : World} {g n : Nat} {xs : List Int} (h : ReadsInt w .u8 (some ⟨g, 0, none⟩) n xs) (hg : W.heap[g]? = w.heap[g]?) : ReadsInt W .u8 (some ⟨g, 0, none⟩) n xs :=
  ⟨h.1, h.2.1, fun h0 => by
    obtain ⟨ad, e, hc⟩ := h.2.2 h0
    injection e with e
    subst e
    exact ⟨_, rfl, fun j hj => (World.cell?_of_block (by rw [show ((⟨g, 0, none⟩ : Addr).add j).block = g by unfold Addr.add; split <;> rfl]; exact hg)).trans (hc j hj)⟩⟩
theorem bothFl {h wd : Nat} {A B : Box} (ha : BoxFl h wd A) (hb : BoxFl h wd B) : BoxFl h wd (bothB A B) := by
  obtain ⟨a1, a2, a3, a4, rfl, a5, a6, a7, a8⟩ := ha
  obtain ⟨b1, b2, b3, b4, rfl, b5, b6, b7, b8⟩ := hb
  refine ⟨min a1 b1, min a2 b2, max (a1 + a3) (b1 + b3) - min a1 b1, max (a2 + a4) (b2 + b4) - min a2 b2, ?_, by omega, by omega, by omega, by omega⟩
  unfold bothB natB
  simp only [Prod.mk.injEq]
  omega
theorem BoxFl.in_ {h wd : Nat} {A : Box} (ha : BoxFl h wd A) (hh : h ≤ 6) (hw : wd ≤ 6) : BoxIn A ∧ 1 ≤ areaB A ∧ areaB A ≤ 36 := by
  obtain ⟨a1, a2, a3, a4, rfl, a5, a6, a7, a8⟩ := ha
  refine ⟨?_, ?_⟩
  · unfold BoxIn natB
    simp only
    omega
  · show 1 ≤ ((a3 : Int) * (a4 : Int)) ∧ ((a3 : Int) * (a4 : Int)) ≤ 36
    have h1 : a3 * a4 ≤ 6 * 6 := Nat.mul_le_mul (by omega) (by omega)
    have h2 : 1 * 1 ≤ a3 * a4 := Nat.mul_le_mul a5 a6
    rw [← Int.natCast_mul]
    omega
set_option maxHeartbeats 4000000 in
theorem has_any (fb h wd : Nat) (cl : Nat → Nat → Int) (boxes : List Box) (w : World) (hf : FloorR w fb h wd cl boxes) (hn : boxes.length ≤ 1000) (k : Int) :
    Calls Try.prog 173 #[.pointer (some ⟨fb, 0, none⟩), .int .i64 k] w fun e w' => e = .returned (.bool (decide (0 ≤ k ∧ k < boxes.length))) ∧ Below w.heap.size w w' := by
  obtain ⟨g, rb, RA, rc, h1, h2, h3, h4, h5, h6⟩ := hf
  clear h3 h5 h6
  by_cases c1 : 0 ≤ k
  · by_cases c2 : k < (boxes.length : Int)
    · rw [decide_eq_true ⟨c1, c2⟩]
      go_enter Try.func173, Try.ntmps173
      go_wp2_with fail
      go_ret
      exact ⟨rfl, Below.refl _ _⟩
    · rw [decide_eq_false (fun h => c2 h.2)]
      go_enter Try.func173, Try.ntmps173
      go_wp2_with fail
      go_ret
      exact ⟨rfl, Below.refl _ _⟩
  · rw [decide_eq_false (fun h => c1 h.1)]
    go_enter Try.func173, Try.ntmps173
    go_wp2_with fail
    go_ret
    exact ⟨rfl, Below.refl _ _⟩
def boxAt (boxes : List Box) (k : Int) : Box := boxes.getD k.toNat (0, 0, 0, 0)
def stuckR (boxes : List Box) (cut : Box → Bool) (b : ByteArray) : Nat → Nat → Box → Int → Bool
  | 0, _, R, cells => decide (cells = areaB R) && !cut R
  | d + 1, i, R, cells =>
    if (decide (0 ≤ bt b (i : Int) - 97 ∧ bt b (i : Int) - 97 < boxes.length) && !(decide (0 < i) && decide (bt b (i : Int) ≤ bt b ((i : Int) - 1)))) = true then
      stuckR boxes cut b d (i + 1) (bothB (if i = 0 then boxAt boxes (bt b (i : Int) - 97) else R) (boxAt boxes (bt b (i : Int) - 97))) (cells + areaB (boxAt boxes (bt b (i : Int) - 97)))
    else false
theorem stuckR_step (boxes : List Box) (cut : Box → Bool) (b : ByteArray) {n k : Nat} (hk : k < n) (R : Box) (C : Int) : stuckR boxes cut b (n - k) k R C =
    if (decide (0 ≤ bt b (k : Int) - 97 ∧ bt b (k : Int) - 97 < boxes.length) && !(decide (0 < k) && decide (bt b (k : Int) ≤ bt b ((k : Int) - 1)))) = true then
      stuckR boxes cut b (n - (k + 1)) (k + 1) (bothB (if k = 0 then boxAt boxes (bt b (k : Int) - 97) else R) (boxAt boxes (bt b (k : Int) - 97))) (C + areaB (boxAt boxes (bt b (k : Int) - 97)))
    else false := by
  rw [show n - k = (n - (k + 1)) + 1 by omega]
  rfl
def cutB (cl : Nat → Nat → Int) (R : Box) : Bool := ((cutsL cl R.1.toNat R.2.1.toNat R.2.2.1.toNat R.2.2.2.toNat).head?).isSome
def stuckByP (cl : Nat → Nat → Int) (boxes : List Box) (b : ByteArray) : Bool := if b.size < 2 then false else stuckR boxes (cutB cl) b b.size 0 (0, 0, 0, 0) 0
end Go.Proofs.Ytdhnjecbdclmaaa
end
