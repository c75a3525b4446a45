/- Texts of this claim's, joined by a program: SLetters, SSpecStuck, SCutStuckP, SPlanRoom, SSplit. -/
import Derived.Test.YtdhnjecbdclmaaaKSSpecTextM
import Derived.Test.YtdhnjecbdclmaaaKSStuck
import Derived.Test.YtdhnjecbdclmaaaKSExPlanM
import Derived.Test.YtdhnjecbdclmaaaKSPut
section
namespace Go.Proofs.Ytdhnjecbdclmaaa
open Go.RowKit Go.Shelf Go.Proofs.YtdhnjecbdclmaaaW.PrintWords Go.Proofs.YtdhnjecbdclmaaaW.PrintMore
set_option linter.unusedVariables false
theorem rowBytes_take {l : List Int} {k : Nat} (hk : k < l.length) : rowBytes (l.take (k + 1)) = rowBytes (l.take k) ++ [letOf (rd l k)] := by
  unfold rowBytes
  rw [List.take_succ_eq_append_getElem hk, List.map_append]
  unfold rd
  rw [Int.toNat_natCast, List.getD_eq_getElem?_getD, List.getElem?_eq_getElem hk]
  rfl
set_option maxRecDepth 100000 in
set_option maxHeartbeats 4000000 in
theorem letters_any (A : Option Addr) (c : Nat) (l : List Int) (hl : l.length ≤ 1000) (hd : ∀ k : Nat, k < l.length → 0 ≤ rd l k ∧ rd l k ≤ 100) (w : World) (hr : Kd.C (Kd.int .i64) w A l.length l) (hc : l.length ≤ c) :
    Calls Try.prog 89 #[.slice A l.length c] w fun e w' => e = .returned (.string (rowText l)) ∧ Below w.heap.size w w' := by
  have HR := Aside0.mk hr
  have HD := Aside0.mk hd
  clear hr hd
  go_enter Try.func89, Try.ntmps89
  go_wp2
  go_loopw [8] (fun i wr => ∃ k : Nat, i = .int .i64 k ∧ k ≤ l.length ∧ Aside0 (IsB w.heap.size w.heap.size (Lib.byteCells (rowBytes (l.take k))) wr) ∧ Aside0 (Below w.heap.size w wr)) (fun i _ => l.length - (intOf i).toNat)
  case atStart => exact ⟨0, rfl, Nat.zero_le _, ⟨Lib.fresh_isBuilder 134 5 w⟩, ⟨(Below.refl _ _).alloc (Nat.le_refl _) _⟩⟩
  case round =>
    obtain ⟨k, rfl, hk, hB, hbel⟩ := hrel
    by_cases hlt : k < l.length
    · obtain ⟨ad, hA, f0⟩ := Kd.at_int (Kd.C_below HR.out hbel.out) (k : Int) (by omega) (by omega)
      have HV := HD.out k hlt
      obtain ⟨n, hn⟩ : ∃ n, rd l (k : Int) = n := ⟨_, rfl⟩
      rw [hn] at HV f0
      rw [Int.toNat_natCast] at f0
      have h0 := HV.1
      have h9 := HV.2
      have HN := Aside0.mk hn
      have hA' := Aside0.mk hA
      clear hn HV
      subst hA
      have hlen : (Lib.byteCells (rowBytes (l.take k))).length + 2 ≤ 140737488355328 := by
        unfold Lib.byteCells rowBytes; rw [List.length_map, List.length_map, List.length_take]; omega
      have HLN := Aside0.mk hlen
      have HS := hbel.out.size
      clear hlen
      go_wp2_with (go_at_call 166; refine (writeByte_any w.heap.size w.heap.size _ _ _ hB.out (by have := HLN.out; omega) (by omega)).mono ?_; rintro e w2 ⟨rfl, hB2, hb2⟩)
      refine ⟨⟨k + 1, by push_cast; rfl, by omega, ⟨?_⟩, ⟨hbel.out.trans hb2⟩⟩, by simp [intOf]; omega⟩
      rw [rowBytes_take hlt, HN.out, byteCells_let ⟨h0, h9⟩]
      exact hB2
    · have hke : l.take k = l := List.take_of_length_le (by omega)
      have HS := hbel.out.size
      have HB2 := hB.out
      rw [hke] at HB2
      have HB3 := Aside0.mk HB2
      clear HB2 hke hB
      go_wp2_with (go_at_call 167; refine (Try.Builder_String_any w.heap.size w.heap.size _ _ HB3.out (by omega)).mono ?_; rintro e w2 ⟨rfl, hb2⟩)
      go_ret
      exact ⟨rfl, hbel.out.trans hb2⟩
theorem stuck_text (cl : Nat → Nat → Int) (boxes : List Box) : ∀ (n : Nat) (r c ph pw : Nat), ph + pw < n → (textL cl boxes n (r, c, ph, pw)).isSome = !(stuckL cl boxes n (r, c, ph, pw)).isSome := by
  intro n
  induction n with
  | zero => intro r c ph pw h; omega
  | succ n ih =>
    intro r c ph pw h
    by_cases h1 : (listL boxes (natB r c ph pw) boxes.length).length = 1
    · rw [textL_one h1]; unfold stuckL; rw [if_pos h1]; rfl
    · cases hx : (cutsL cl r c ph pw).head? with
      | none => rw [textL_none h1 hx]; unfold stuckL; rw [if_neg h1, hx]; rfl
      | some x =>
        have hxm := head_in hx
        have i1 := (one_in hxm).less
        have i2 := (two_in hxm).less
        have e1 := ih (oneR r c ph pw x).1 (oneR r c ph pw x).2.1 (oneR r c ph pw x).2.2.1 (oneR r c ph pw x).2.2.2 (by omega)
        have e2 := ih (twoR r c ph pw x).1 (twoR r c ph pw x).2.1 (twoR r c ph pw x).2.2.1 (twoR r c ph pw x).2.2.2 (by omega)
        have e1 : (textL cl boxes n (oneR r c ph pw x)).isSome = !(stuckL cl boxes n (oneR r c ph pw x)).isSome := e1
        have e2 : (textL cl boxes n (twoR r c ph pw x)).isSome = !(stuckL cl boxes n (twoR r c ph pw x)).isSome := e2
        rw [textL_some h1 hx]
        conv => rhs; unfold stuckL
        rw [if_neg h1, hx]
        simp only
        cases a : textL cl boxes n (oneR r c ph pw x) <;> cases b : stuckL cl boxes n (oneR r c ph pw x) <;> rw [a, b] at e1 <;> simp at e1 <;> cases d : textL cl boxes n (twoR r c ph pw x) <;> rw [d] at e2 <;> simp at e2 <;> simp [e2]
theorem stuck_whole {cl : Nat → Nat → Int} {boxes : List Box} {h wd : Nat} (f : Flat cl boxes h wd) : ∀ (n : Nat) (r c ph pw : Nat), Whole cl h wd r c ph pw → ∀ R, stuckL cl boxes n (r, c, ph, pw) = some R → Whole cl h wd R.1 R.2.1 R.2.2.1 R.2.2.2 := by
  intro n
  induction n with
  | zero => intro r c ph pw _ R h; cases h
  | succ n ih =>
    intro r c ph pw hw R h
    unfold stuckL at h
    split at h
    · cases h
    · split at h
      · obtain rfl := Option.some.inj h; exact hw
      · rename_i x hx
        obtain ⟨w1, w2⟩ := whole_parts f hw (head_in hx)
        split at h
        · rename_i R1 h1
          obtain rfl := Option.some.inj h
          exact ih _ _ _ _ w1 R1 h1
        · exact ih _ _ _ _ w2 R h
def stuckO (p : List ByteArray) : Option Rc := stuckL (clP p) (boxesP p) 13 (0, 0, p.length, wdP p)
def stuckRooms (p : List ByteArray) : List Int := match stuckO p with
  | none => []
  | some R => listL (boxesP p) (boxR R) (boxesP p).length
def wCut : ByteArray := ⟨#[99, 117, 116, 32]⟩
def wStuck : ByteArray := ⟨#[115, 116, 117, 99, 107, 32]⟩
def proofCutP (p : List ByteArray) : ByteArray × Bool := if planG p then (match cutTextO p with
  | some s => (wCut ++ ⟨s.toArray⟩, true)
  | none => (wStuck ++ rowText (stuckRooms p), true)) else (⟨#[]⟩, false)
set_option maxHeartbeats 8000000 in
theorem proofCut_any (A : Option Addr) (cap : Nat) (p : List ByteArray) (hp : SmallP p) (w : World) (hr0 : Kd.C Kd.string w A p.length p) (hc0 : p.length ≤ cap) :
    Calls Try.prog 33 #[.slice A p.length cap] w fun e w' => e = .returned (.tuple #[.string (proofCutP p).1, .bool (proofCutP p).2]) ∧ Below w.heap.size w w' := by
  have HFL := floorOf_any A cap p hp.1 hp.2 w hr0 hc0
  clear hr0
  go_enter Try.func33, Try.ntmps33
  go_wp2_with fail
  refine HFL.mono ?_
  rintro e w1 ⟨hb1, ⟨hpl, fb, base, rfl, hbase, hfl⟩ | ⟨hpl, o, rfl⟩⟩
  · have HB1 := Aside0.mk hb1
    have F := Aside0.mk (planFlat hpl)
    have hR := hfl.reads
    have hh := (planFlat hpl).high
    have hw := (planFlat hpl).wide
    have HWH := Aside0.mk (fun W (hW : Below w1.heap.size w1 W) => whole_any fb p.length (wdP p) (clP p) (boxesP p) W (hR.below hW) (by omega) (by omega))
    have HTX := Aside0.mk (fun W (hW : Below w1.heap.size w1 W) => text_of fb p.length (wdP p) (clP p) (boxesP p) hh.2 hw.2 F.out.boxIn F.out.few 0 0 p.length (wdP p) (by omega) (by omega) W (hR.below hW))
    have HSK := Aside0.mk (fun W (hW : Below w1.heap.size w1 W) => stuck_any fb p.length (wdP p) (clP p) (boxesP p) hh.2 hw.2 F.out.boxIn F.out.few 13 (by omega) 0 0 p.length (wdP p) (by omega) (by omega) (by omega) W (hR.below hW))
    have HRR := Aside0.mk hR
    have hst := stuck_text (clP p) (boxesP p) 13 0 0 p.length (wdP p) (by omega)
    have hwh := stuck_whole F.out 13 0 0 p.length (wdP p) F.out.whole
    have hlen := textL_len (clP p) (boxesP p) 13 (0, 0, p.length, wdP p)
    obtain ⟨o, ho⟩ : ∃ o, textL (clP p) (boxesP p) 13 (0, 0, p.length, wdP p) = o := ⟨_, rfl⟩
    rw [ho] at HTX hst hlen
    have HO := Aside0.mk (show cutTextO p = o from ho)
    have HPL := Aside0.mk hpl
    clear hb1 hpl hfl hR ho
    go_wp2_with fail
    refine (HWH.out _ (Below.refl _ _)).mono ?_
    rintro e w2 ⟨rfl, hb2⟩
    have HB2 := Aside0.mk hb2
    clear hb2
    go_wp2_with fail
    refine (HTX.out _ HB2.out).mono ?_
    rintro e w3 ⟨rfl, hb3⟩
    have HB3 := Aside0.mk (HB2.out.trans (hb3.mono HB2.out.size))
    clear hb3
    unfold textV
    cases o with
    | some s =>
      have hs := hlen s rfl
      have hval : proofCutP p = (wCut ++ ⟨s.toArray⟩, true) := by unfold proofCutP; rw [if_pos HPL.out, HO.out]
      have HV := Aside0.mk hval
      clear hval hst hwh hlen
      simp only [Option.getD_some, Option.isSome_some]
      go_wp2_with fail
      go_ret2
      exact ⟨by rw [HV.out]; rfl, HB1.out.trans (HB3.out.mono HB1.out.size)⟩
    | none =>
      obtain ⟨R, hRo⟩ : ∃ R, stuckL (clP p) (boxesP p) 13 (0, 0, p.length, wdP p) = some R := by
        cases hq : stuckL (clP p) (boxesP p) 13 (0, 0, p.length, wdP p) with
        | none => rw [hq] at hst; cases hst
        | some R => exact ⟨R, rfl⟩
      have hwR := hwh R hRo
      have hval : proofCutP p = (wStuck ++ rowText (listL (boxesP p) (boxR R) (boxesP p).length), true) := by
        unfold proofCutP
        rw [if_pos HPL.out, HO.out]
        have : stuckRooms p = listL (boxesP p) (boxR R) (boxesP p).length := by unfold stuckRooms stuckO; rw [hRo]
        simp only [this]
      have HV := Aside0.mk hval
      have hrow := hwR.row
      have hcol := hwR.col
      have HLI := Aside0.mk (fun W (hW : Below w1.heap.size w1 W) => list_any fb p.length (wdP p) (clP p) (boxesP p) W (HRR.out.below hW) (boxR R) (boxIn_nat (by omega) (by omega) (by omega) (by omega)) F.out.boxIn (by have := F.out.few; omega))
      have hll := listL_len (boxesP p) (boxR R) (boxesP p).length
      have hfew := F.out.few
      have hle : ∀ k : Nat, k < (listL (boxesP p) (boxR R) (boxesP p).length).length → 0 ≤ rd (listL (boxesP p) (boxR R) (boxesP p).length) k ∧ rd (listL (boxesP p) (boxR R) (boxesP p).length) k ≤ 100 := fun k hk => by
        rw [rd_get hk]
        obtain ⟨m, e, hm, _⟩ := listL_mem (List.getElem_mem hk)
        rw [e]; omega
      rw [hRo] at HSK
      have HLE := Aside0.mk (fun A c W => letters_any A c (listL (boxesP p) (boxR R) (boxesP p).length) (by omega) hle W)
      obtain ⟨L, hL⟩ : ∃ L, listL (boxesP p) (boxR R) (boxesP p).length = L := ⟨_, rfl⟩
      rw [hL] at HLI HLE HV hll
      have hrs : (rowText L).size ≤ 100 := by
        unfold rowText rowBytes
        show (List.map letOf L).toArray.size ≤ 100
        rw [List.size_toArray, List.length_map]; omega
      clear hval hst hwh hlen hRo hwR hrow hcol hle hL
      simp only [Option.getD_none, Option.isSome_none]
      go_wp2_with fail
      refine (HWH.out _ HB3.out).mono ?_
      rintro e w4 ⟨rfl, hb4⟩
      have HB4 := Aside0.mk (HB3.out.trans (hb4.mono HB3.out.size))
      clear hb4
      go_wp2_with fail
      refine (HSK.out _ HB4.out).mono ?_
      rintro e w5 ⟨rfl, hb5⟩
      have HB5 := Aside0.mk (HB4.out.trans (hb5.mono HB4.out.size))
      clear hb5
      simp only [stuckV, stuckC, partCells, Option.isSome_some]
      go_wp2_with fail
      unfold partV at HLI
      have hb6 := HB5.out.alloc HB5.out.size (.cells #[.pointer (some ⟨fb, 0, none⟩), .int .i64 (boxR R).1, .int .i64 (boxR R).2.1, .int .i64 (boxR R).2.2.1, .int .i64 (boxR R).2.2.2] 58)
      refine (HLI.out _ hb6).mono ?_
      rintro e w7 ⟨⟨A2, c2, rfl, hc2, hC⟩, hb7⟩
      have HB7 := Aside0.mk (hb6.trans (hb7.mono hb6.size))
      have HCC := Aside0.mk hC
      clear hb6 hb7 hC
      go_wp2_with fail
      refine (HLE.out _ _ _ HCC.out hc2).mono ?_
      rintro e w8 ⟨rfl, hb8⟩
      have HB8 := Aside0.mk (HB7.out.trans (hb8.mono HB7.out.size))
      clear hb8
      go_wp2_with fail
      go_ret2
      exact ⟨by rw [HV.out]; rfl, HB1.out.trans (HB8.out.mono HB1.out.size)⟩
  · have HB1 := Aside0.mk hb1
    have hval : proofCutP p = (⟨#[]⟩, false) := by unfold proofCutP; rw [hpl]; rfl
    have HV := Aside0.mk hval
    clear hb1 hpl hval
    go_wp2_with fail
    go_ret2
    exact ⟨by rw [HV.out]; rfl, HB1.out⟩
end Go.Proofs.Ytdhnjecbdclmaaa
end
section
namespace Go.Proofs.Ytdhnjecbdclmaaa
open Go.RowKit Go.Shelf Go.Proofs.YtdhnjecbdclmaaaW.PrintWords Go.Proofs.YtdhnjecbdclmaaaW.PrintMore
set_option linter.unusedVariables false
set_option linter.unusedSimpArgs false
def StuckT (cl : Nat → Nat → Int) (q : List ByteArray) : Option Rc → Prop
  | none => q = []
  | some R => TG q R.2.2.1 R.2.2.2 (gridOf cl R.1 R.2.1)
def StuckE (cl : Nat → Nat → Int) (o : Option Rc) (w w' : World) (e : Ending) : Prop := ∃ (q : List ByteArray) (A : Option Addr) (c n : Nat), e = .returned (.slice A n c) ∧ n = q.length ∧ q.length ≤ c ∧ Kd.C Kd.string w' A q.length q ∧ StuckT cl q o ∧ Below w.heap.size w w'
theorem nilC (W : World) : Kd.C Kd.string W none 0 [] := Kd.C_of_reads (d := ByteArray.empty) (enc := Value.string) (h1 := fun _ => rfl) ⟨rfl, Nat.zero_le _, fun h => absurd h (Nat.lt_irrefl 0)⟩
set_option maxRecDepth 100000 in
set_option maxHeartbeats 8000000 in
theorem specStuck_any {cl : Nat → Nat → Int} {boxes : List Box} {h wd : Nat} (f : Flat cl boxes h wd) : ∀ (n : Nat), n ≤ 13 → ∀ (r c ph pw : Nat) (p : List ByteArray), ph + pw < n → Whole cl h wd r c ph pw → TG p ph pw (gridOf cl r c) →
    ∀ (A : Option Addr) (cap : Nat) (w : World), Kd.C Kd.string w A p.length p → p.length ≤ cap →
    Calls Try.prog 100 #[.slice A p.length cap] w fun e w' => StuckE cl (stuckL cl boxes n (r, c, ph, pw)) w w' e := by
  intro n
  induction n with
  | zero => intro _ r c ph pw p h0; omega
  | succ n ih =>
    intro hn r c ph pw p hlt hw t A cap w hr0 hc0
    have hone := one_f t
    rw [grid_one f hw] at hone
    obtain ⟨k1, hk1⟩ := hone.ex
    have HON := Aside0.mk (fun W (hW : Below w.heap.size w W) => L3.spec_l3One.calls k1 A cap p _ W (Kd.C_below hr0 hW) hc0 hk1)
    have hcut := cut_f t
    obtain ⟨k2, hk2⟩ := hcut.ex
    have hplen := t.len
    have hhi := t.high
    have HCU := Aside0.mk (fun W (hW : Below w.heap.size w W) => L3.spec_l3Cut.calls k2 A cap p (firstG (cutsG (gridOf cl r c) ph pw).head?).1 (firstG (cutsG (gridOf cl r c) ph pw).head?).2 W (Kd.C_below hr0 hW) hc0 hk2)
    by_cases h1 : (listL boxes (natB r c ph pw) boxes.length).length = 1
    · have hv : stuckL cl boxes (n + 1) (r, c, ph, pw) = none := by unfold stuckL; rw [if_pos h1]
      rw [hv]
      rw [decide_eq_true h1] at HON
      clear hr0 h1 hv ih hone hcut hk1 hk2 hplen hhi
      go_enter Try.func100, Try.ntmps100
      go_wp2_with fail
      refine (HON.out _ (Below.refl _ _)).mono ?_
      rintro e w1 ⟨rfl, nd, rfl⟩
      go_wp2_with fail
      go_ret
      refine ⟨[], _, _, _, rfl, rfl, by simp, ?_, rfl, ?_⟩
      · first | exact nilC _ | exact Kd.C_of_reads (d := ByteArray.empty) (enc := Value.string) (h1 := fun _ => rfl) ⟨rfl, Nat.zero_le _, fun h => absurd h (Nat.lt_irrefl 0)⟩
      · repeat (first | exact Below.refl _ _ | apply pw_below_drewN | apply below_alloc)
    · rw [decide_eq_false h1] at HON
      have hcg := cuts_grid cl r c ph pw
      cases hx : (cutsG (gridOf cl r c) ph pw).head? with
      | none =>
        have hx2 : (cutsL cl r c ph pw).head? = none := by rw [hcg, List.head?_map, hx]; rfl
        have hv : stuckL cl boxes (n + 1) (r, c, ph, pw) = some (r, c, ph, pw) := by unfold stuckL; rw [if_neg h1, hx2]
        rw [hv]
        rw [hx] at HCU
        have HR := Aside0.mk hr0
        have HT := Aside0.mk t
        clear hr0 h1 hv ih hone hcut hk1 hk2 hx hx2 hcg t hplen hhi
        simp only [firstG] at HCU
        go_enter Try.func100, Try.ntmps100
        go_wp2_with fail
        refine (HON.out _ (Below.refl _ _)).mono ?_
        rintro e w1 ⟨rfl, nd, rfl⟩
        have hbd : Below w.heap.size w (w.drewN nd) := pw_below_drewN (Below.refl _ _) _
        have HBD := Aside0.mk hbd
        clear hbd
        go_wp2_with fail
        refine (HCU.out _ HBD.out).mono ?_
        rintro e w2 ⟨rfl, hb2⟩
        have HB2 := Aside0.mk (HBD.out.trans (hb2.mono HBD.out.size))
        clear hb2
        go_wp2_with fail
        go_ret
        exact ⟨p, _, _, _, rfl, rfl, hc0, Kd.C_below HR.out HB2.out, HT.out, HB2.out⟩
      | some x =>
        have hx2 : (cutsL cl r c ph pw).head? = some (moveX r c x) := by rw [hcg, List.head?_map, hx]; rfl
        have hxm := head_in hx2
        have hxg : x ∈ cutsG (gridOf cl r c) ph pw := List.mem_of_mem_head? (by rw [hx]; rfl)
        have hin := cutsG_in hxg
        obtain ⟨w1', w2'⟩ := whole_parts f hw hxm
        obtain ⟨t1, t2⟩ := parts_grid t hxg
        have i1 := (one_in hxm).less
        have i2 := (two_in hxm).less
        have hp := parts_f t x (by cases hb : x.1 <;> rw [hb] at hin <;> simp at hin ⊢ <;> omega)
        obtain ⟨k3, hk3⟩ := hp.ex
        obtain ⟨q1, q2⟩ : ∃ q1 q2, partsT p ph x = (q1, q2) := ⟨_, _, rfl⟩
        obtain ⟨q2, hq⟩ := q2
        rw [hq] at hk3 t1 t2
        have HPA := Aside0.mk (fun W (hW : Below w.heap.size w W) => L3.spec_l3Parts.calls k3 A cap p (kindI x.1) (x.2 : Int) q1 q2 W (Kd.C_below hr0 hW) hc0 hk3)
        have HI1 := Aside0.mk (ih (by omega) _ _ _ _ q1 (by omega) w1' t1)
        have HI2 := Aside0.mk (ih (by omega) _ _ _ _ q2 (by omega) w2' t2)
        have hv : stuckL cl boxes (n + 1) (r, c, ph, pw) = match stuckL cl boxes n (oneR r c ph pw (moveX r c x)) with
            | some R => some R
            | none => stuckL cl boxes n (twoR r c ph pw (moveX r c x)) := by
          conv => lhs; unfold stuckL
          rw [if_neg h1, hx2]
          rfl
        rw [hv]
        rw [hx, show firstG (some x) = (kindI x.1, (x.2 : Int)) from rfl] at HCU
        have hx0 : ((x.2 : Int) == 0) = false := by rw [beq_eq_false_iff_ne]; omega
        obtain ⟨kd, hkd⟩ : ∃ kd, kindI x.1 = kd := ⟨_, rfl⟩
        obtain ⟨xl, hxl⟩ : ∃ xl : Int, (x.2 : Int) = xl := ⟨_, rfl⟩
        rw [hkd, hxl] at HCU HPA
        rw [hxl] at hx0
        obtain ⟨o1, ho1⟩ : ∃ o, stuckL cl boxes n (oneR r c ph pw (moveX r c x)) = o := ⟨_, rfl⟩
        obtain ⟨o2, ho2⟩ : ∃ o, stuckL cl boxes n (twoR r c ph pw (moveX r c x)) = o := ⟨_, rfl⟩
        have HJ1 : Aside0 (∀ (A : Option Addr) (cap : Nat) (w : World), Kd.C Kd.string w A q1.length q1 → q1.length ≤ cap → Calls Try.prog 100 #[.slice A q1.length cap] w fun e w' => StuckE cl o1 w w' e) := ⟨by rw [← ho1]; exact HI1.out⟩
        have HJ2 : Aside0 (∀ (A : Option Addr) (cap : Nat) (w : World), Kd.C Kd.string w A q2.length q2 → q2.length ≤ cap → Calls Try.prog 100 #[.slice A q2.length cap] w fun e w' => StuckE cl o2 w w' e) := ⟨by rw [← ho2]; exact HI2.out⟩
        rw [ho1, ho2]
        clear hr0 h1 hv ih hplen hhi hone hcut hk1 hk2 hk3 hx hx2 hcg t t1 t2 hp hq hxm hxg hin w1' w2' hkd hxl ho1 ho2 HI1 HI2 i1 i2
        go_enter Try.func100, Try.ntmps100
        go_wp2_with fail
        refine (HON.out _ (Below.refl _ _)).mono ?_
        rintro e w1 ⟨rfl, nd, rfl⟩
        have hbd : Below w.heap.size w (w.drewN nd) := pw_below_drewN (Below.refl _ _) _
        have HBD := Aside0.mk hbd
        clear hbd
        go_wp2_with fail
        refine (HCU.out _ HBD.out).mono ?_
        rintro e w2 ⟨rfl, hb2⟩
        have HB2 := Aside0.mk (HBD.out.trans (hb2.mono HBD.out.size))
        clear hb2
        go_wp2_with fail
        refine (HPA.out _ HB2.out).mono ?_
        rintro e w3 ⟨v0, v1, rfl, hR0, hR1, hb3⟩
        obtain ⟨A0, c0, rfl, hl0, hC0⟩ := Kd.R_reads hR0
        obtain ⟨A1, c1, rfl, hl1, hC1⟩ := Kd.R_reads hR1
        have HB3 := Aside0.mk (HB2.out.trans (hb3.mono HB2.out.size))
        have HC0 := Aside0.mk hC0
        have HC1 := Aside0.mk hC1
        clear hb3 hR0 hR1 hC0 hC1
        go_wp2_with fail
        refine (HJ1.out _ _ _ HC0.out hl0).mono ?_
        rintro e w4 ⟨q, A4, c4, n4, rfl, hn4, hl4, hC4, hT4, hb4⟩
        have HB4 := Aside0.mk (HB3.out.trans (hb4.mono HB3.out.size))
        have HC4 := Aside0.mk hC4
        have HT4 := Aside0.mk hT4
        have HC14 := Aside0.mk (Kd.C_below HC1.out hb4)
        clear hb4 hC4
        cases o1 with
        | some R =>
          have hpos : 0 < n4 := by have h1 : TG q R.2.2.1 R.2.2.2 (gridOf cl R.1 R.2.1) := hT4; have := h1.len; have := h1.high; omega
          have HN4 := Aside0.mk hn4
          clear hT4 hn4
          go_wp2_with fail
          go_ret
          exact ⟨q, _, _, _, rfl, HN4.out, hl4, HC4.out, HT4.out, HB4.out⟩
        | none =>
          have hq0 : q = [] := hT4
          have hz : ¬ 0 < n4 := by rw [hn4, hq0]; simp
          clear hT4 hn4 hq0
          go_wp2_with fail
          refine (HJ2.out _ _ _ HC14.out hl1).mono ?_
          rintro e w5 ⟨q5, A5, c5, n5, rfl, hn5, hl5, hC5, hT5, hb5⟩
          have HB5 := Aside0.mk (HB4.out.trans (hb5.mono HB4.out.size))
          have HC5 := Aside0.mk hC5
          have HT5 := Aside0.mk hT5
          have HN5 := Aside0.mk hn5
          clear hb5 hC5 hT5 hn5
          go_wp2_with fail
          go_ret
          exact ⟨q5, _, _, _, rfl, HN5.out, hl5, HC5.out, HT5.out, HB5.out⟩
end Go.Proofs.Ytdhnjecbdclmaaa
end
section
namespace Go.Proofs.Ytdhnjecbdclmaaa
open Go.RowKit Go.Shelf Go.Proofs.YtdhnjecbdclmaaaW.PrintWords Go.Proofs.YtdhnjecbdclmaaaW.PrintMore L2
set_option linter.unusedVariables false
set_option linter.unusedSimpArgs false
theorem TG.grid {p : List ByteArray} {h w : Nat} {G : Nat → Nat → Int} (t : TG p h w G) : TextGrid p w (fun n => G (n / w) (n % w)) := by
  have hl := t.len
  have hh := t.high
  have hw := t.wide
  have hrd : ∀ i (hi : i < p.length), rdOf ByteArray.empty p (i : Int) = p[i] := fun i hi => by
    unfold rdOf
    rw [Int.toNat_natCast, List.getD_eq_getElem?_getD, List.getElem?_eq_getElem hi]
    rfl
  refine ⟨by omega, by omega, fun i hi => ?_, fun i c hi hc => ?_, fun n hn => ?_⟩
  · have := t.size i (by omega)
    rwa [hrd i hi] at this
  · have := t.cell i c (by omega) hc
    rw [hrd i hi] at this
    rw [this, (div_row hc).1, (div_row hc).2]
  · refine t.let_ _ _ ?_ (Nat.mod_lt _ (by omega))
    rw [← hl]
    exact Nat.div_lt_of_lt_mul (by rw [Nat.mul_comm]; exact hn)
theorem cnt_pos (f : Nat → Int) (x : Int) : ∀ n, 0 < cntX f x n ↔ ∃ m, m < n ∧ f m = x := by
  intro n
  induction n with
  | zero => simp [cntX, sumTo]
  | succ n ih =>
    have e : cntX f x (n + 1) = cntX f x n + (if f n = x then 1 else 0) := rfl
    rw [e]
    constructor
    · intro h
      by_cases hx : f n = x
      · exact ⟨n, by omega, hx⟩
      · rw [if_neg hx] at h
        obtain ⟨m, h1, h2⟩ := ih.1 (by omega)
        exact ⟨m, by omega, h2⟩
    · rintro ⟨m, h1, h2⟩
      by_cases hm : m = n
      · subst hm; rw [if_pos h2]; omega
      · have := ih.2 ⟨m, by omega, h2⟩
        omega
theorem cells_part {cl : Nat → Nat → Int} {boxes : List Box} {h wd : Nat} (f : Flat cl boxes h wd) {R : Rc} (hw : Whole cl h wd R.1 R.2.1 R.2.2.1 R.2.2.2) {q : List ByteArray} (t : TG q R.2.2.1 R.2.2.2 (gridOf cl R.1 R.2.1)) (k : Nat) (hk : k < boxes.length) :
    ∃ (m j : Nat), spec_l1Cells.f j q (k : Int) = some (m : Int) ∧ m ≤ 36 ∧ (0 < m ↔ bothB (boxR R) boxes[k] = boxR R) := by
  have hfew := f.few
  obtain ⟨j, hj⟩ := cells_f t.grid (k : Int) (by omega)
  refine ⟨_, j, hj, ?_, ?_⟩
  · have hle : ∀ (f : Nat → Int) x n, cntX f x n ≤ n := fun f x n => by
      induction n with
      | zero => exact Nat.le_refl _
      | succ n ih =>
        have e : cntX f x (n + 1) = cntX f x n + (if f n = x then 1 else 0) := rfl
        rw [e]; split <;> omega
    have h1 := hle (fun n => gridOf cl R.1 R.2.1 (n / R.2.2.2) (n % R.2.2.2)) (97 + (k : Int)) (q.length * R.2.2.2)
    have h2 : q.length * R.2.2.2 ≤ 6 * 6 := Nat.mul_le_mul (by rw [t.len]; exact t.high.2) t.wide.2
    omega
  · rw [cnt_pos]
    unfold boxR
    rw [room_within f hw k hk, t.len]
    have hh := t.high
    have hww := t.wide
    constructor
    · rintro ⟨m, h1, h2⟩
      have hm1 : m / R.2.2.2 < R.2.2.1 := Nat.div_lt_of_lt_mul (by rw [Nat.mul_comm]; exact h1)
      have hm2 : m % R.2.2.2 < R.2.2.2 := Nat.mod_lt _ (by omega)
      unfold gridOf at h2
      exact ⟨R.1 + m / R.2.2.2, R.2.1 + m % R.2.2.2, ⟨⟨Nat.le_add_right _ _, by omega⟩, Nat.le_add_right _ _, by omega⟩, by omega⟩
    · rintro ⟨i, j, ⟨⟨c1, c2⟩, c3, c4⟩, hc⟩
      have hj : j - R.2.1 < R.2.2.2 := by omega
      refine ⟨(i - R.1) * R.2.2.2 + (j - R.2.1), ?_, ?_⟩
      · have : (i - R.1 + 1) * R.2.2.2 ≤ R.2.2.1 * R.2.2.2 := Nat.mul_le_mul_right _ (by omega)
        rw [Nat.succ_mul] at this; omega
      · show gridOf cl R.1 R.2.1 (((i - R.1) * R.2.2.2 + (j - R.2.1)) / R.2.2.2) (((i - R.1) * R.2.2.2 + (j - R.2.1)) % R.2.2.2) = _
        rw [(div_row hj).1, (div_row hj).2]
        unfold gridOf
        rw [show R.1 + (i - R.1) = i by omega, show R.2.1 + (j - R.2.1) = j by omega, hc]
theorem plan_rooms {p : List ByteArray} (h : planG p = true) : ∃ k, spec_l1Rooms.f k p = some ((boxesP p).length : Int) := by
  have F := planFacts h
  obtain ⟨hT, h1, h3⟩ := textGrid_of F.let_ F.shape
  have hN := named_of F.let_ F.shape F.named
  obtain ⟨k, hk⟩ := rooms_f hT
  change Named (wdP p) (fP p) (p.length * wdP p) at hN
  change spec_l1Rooms.f k p = some (rmx (fP p) (p.length * wdP p)) at hk
  rw [rmx_named hN _ (Nat.le_refl _), scan_len, ← boxesP_scan] at hk
  exact ⟨k, hk⟩
def outK (boxes : List Box) : Option Rc → Nat → List Int
  | none, _ => []
  | some R, k => listL boxes (boxR R) k
theorem outK_len (boxes : List Box) (o : Option Rc) (k : Nat) : (outK boxes o k).length ≤ k := by
  cases o with
  | none => exact Nat.zero_le _
  | some R => exact listL_len _ _ _
theorem outK_rooms (p : List ByteArray) : outK (boxesP p) (stuckO p) (boxesP p).length = stuckRooms p := by
  unfold stuckRooms
  cases stuckO p <;> rfl
end Go.Proofs.Ytdhnjecbdclmaaa
end
section
namespace Go.Proofs.Ytdhnjecbdclmaaa
open Go.RowKit Go.Shelf Go.Proofs.YtdhnjecbdclmaaaW.PrintWords Go.Proofs.YtdhnjecbdclmaaaW.PrintMore
set_option linter.unusedVariables false
theorem w_id {x : Int} (h1 : -100000000 ≤ x) (h2 : x ≤ 100000000) : wrap64 x = x := by unfold wrap64; omega
theorem plan_room {p : List ByteArray} (h : planG p = true) (k : Nat) (hk : k < (boxesP p).length) : Ev (fun n => L2.spec_l1Room.f n p (k : Int)) (boxesP p)[k] := by
  have F := planFacts h
  obtain ⟨hT, h1, h3⟩ := textGrid_of F.let_ F.shape
  have hN := named_of F.let_ F.shape F.named
  change Named (wdP p) (fP p) (p.length * wdP p) at hN
  have hsl := scan_len (w := wdP p) (f := fP p) (p.length * wdP p)
  have hbl : (boxesP p).length = (scan (wdP p) (fP p) (p.length * wdP p)).1.length := by rw [boxesP_scan, hsl]
  have hk1 : k < (scan (wdP p) (fP p) (p.length * wdP p)).1.length := by rw [← hbl]; exact hk
  have hk2 : k < (scan (wdP p) (fP p) (p.length * wdP p)).2.length := by rw [← hsl]; exact hk1
  have hbx := scan_box (w := wdP p) (f := fP p) (p.length * wdP p) k hk1 hk2
  rw [named_ord hN k hk1] at hbx
  have hex : ∃ m, m < p.length * wdP p ∧ fP p m = 97 + (k : Int) := by
    obtain ⟨m, a, b, _⟩ := hbx.top
    exact ⟨m, a, b⟩
  have hfew := F.few
  obtain ⟨ko, b, hko, hb⟩ := room_f hT h1 (k : Int) ⟨by omega, by omega⟩ hex
  have hbe := hb.unique hbx
  subst hbe
  refine ⟨ko, fun n hn => ?_⟩
  have hO := up (g := fun k' => L2.spec_l1Room.f k' p (k : Int)) (fun k' => L2.spec_l1Room.mono p (k : Int) k') hko (n - ko)
  rw [show ko + (n - ko) = n by omega] at hO
  show L2.spec_l1Room.f n p (k : Int) = _
  rw [hO]
  simp only [boxesP_scan]
end Go.Proofs.Ytdhnjecbdclmaaa
end
section
namespace Go.Proofs.Ytdhnjecbdclmaaa
open Go.RowKit Go.Shelf Go.Proofs.YtdhnjecbdclmaaaW.PrintWords Go.Proofs.YtdhnjecbdclmaaaW.PrintMore
set_option linter.unusedVariables false
set_option linter.unusedSimpArgs false
theorem plan_small {p : List ByteArray} (h : planG p = true) : SmallP p := by
  have F := planFacts h
  have hs := namedT_small F.shape
  have e : namedT p = p := F.named
  rwa [e] at hs
theorem l6In_calls (a b c : Int) (w : World) : Calls Try.prog 175 #[.int .i64 a, .int .i64 b, .int .i64 c] w fun e w' => e = .returned (.bool (decide (b ≤ a ∧ a ≤ c))) ∧ Below w.heap.size w w' := by
  refine (L2.spec_l6In.calls a b c (decide (b ≤ a ∧ a ≤ c)) w ?_).mono fun e w' ⟨he, n, hw⟩ => ⟨he, by rw [hw]; exact pw_below_drewN (Below.refl _ _) _⟩
  unfold L2.spec_l6In.f
  split
  · rename_i h
    congr 1
    exact Bool.eq_iff_iff.2 (by simp; omega)
  · rename_i h
    congr 1
    exact Bool.eq_iff_iff.2 (by simp; omega)
set_option maxHeartbeats 4000000 in
theorem given_any (A : Option Addr) (cap : Nat) (p : List ByteArray) (hpl : planG p = true) (room : Nat) (hroom : room < (boxesP p).length) (w : World) (hr0 : Kd.C Kd.string w A p.length p) (hc0 : p.length ≤ cap) :
    Calls Try.prog 186 #[.slice A p.length cap, .int .i64 room] w fun e w' => e = .returned (.bool true) ∧ Below w.heap.size w w' := by
  have hp := plan_small hpl
  have hfew := (planFlat hpl).few
  have HPI := Aside0.mk (fun W (hW : Below w.heap.size w W) => spec_PlanIn.calls A cap p true W (Kd.C_below hr0 hW) hc0 (by unfold spec_PlanIn.f; rw [if_pos hp, hpl]))
  obtain ⟨kr, hkr⟩ := plan_rooms hpl
  have HRM := Aside0.mk (fun W (hW : Below w.heap.size w W) => L2.spec_l1Rooms.calls kr A cap p _ W (Kd.C_below hr0 hW) hc0 hkr)
  have HIN : Aside0 (∀ W, Calls Try.prog 175 #[.int .i64 room, .int .i64 0, .int .i64 (((boxesP p).length : Int) - 1)] W fun e w' => e = .returned (.bool true) ∧ Below W.heap.size W w') := ⟨fun W => by
    have := l6In_calls (room : Int) 0 (((boxesP p).length : Int) - 1) W
    rwa [decide_eq_true (by omega)] at this⟩
  obtain ⟨nb, hnb⟩ : ∃ nb, (boxesP p).length = nb := ⟨_, rfl⟩
  rw [hnb] at HRM HIN hfew hroom
  clear hr0 hkr hpl hp hnb
  go_enter Try.func186, Try.ntmps186
  go_wp2_with fail
  refine (HPI.out _ (Below.refl _ _)).mono ?_
  rintro e w1 ⟨rfl, hb1⟩
  have HB1 := Aside0.mk hb1
  clear hb1
  go_wp2_with fail
  refine (HRM.out _ HB1.out).mono ?_
  rintro e w2 ⟨rfl, hb2⟩
  have HB2 := Aside0.mk (HB1.out.trans (hb2.mono HB1.out.size))
  clear hb2
  go_wp2_with fail
  refine (HIN.out _).mono ?_
  rintro e w3 ⟨rfl, hb3⟩
  have HB3 := Aside0.mk (HB2.out.trans (hb3.mono HB2.out.size))
  clear hb3
  go_wp2_with fail
  go_ret
  exact ⟨rfl, HB3.out⟩
def SplitE (p : List ByteArray) (w w' : World) (e : Ending) : Prop := (∃ A' n' c' b q, e = .returned (.tuple #[.slice A' n' c', .bool b]) ∧ (b = true → n' = p.length ∧ q.length = p.length ∧ planG q = true ∧ w'.ownsRow w.heap.size 9 1 (.slice A' n' c') n' (encs Value.string q))) ∧ Below w.heap.size w w'
theorem putT_small {p : List ByteArray} (hp : SmallP p) (top d left w : Nat) (c : Int) : SmallP (putT p top d left w c) := by
  refine ⟨by rw [putT_len]; exact hp.1, fun s hs => ?_⟩
  unfold putT at hs
  obtain ⟨i, hi, rfl⟩ := List.mem_map.1 hs
  have hi := List.mem_range.1 hi
  have := hp.2 _ (List.getElem_mem hi)
  split
  · rw [str_size, rowPut_len, rdOf_get hi]; exact this
  · rw [rdOf_get hi]; exact this
set_option maxRecDepth 100000 in
set_option maxHeartbeats 8000000 in
theorem split_any (A : Option Addr) (cap : Nat) (p : List ByteArray) (hpl : planG p = true) (room : Nat) (hroom : room < (boxesP p).length) (s : ByteArray) (hs : s = ⟨#[104]⟩ ∨ s = ⟨#[118]⟩) (k : Nat) (hk : 1 ≤ k ∧ k ≤ 3) (w : World) (hr0 : Kd.C Kd.string w A p.length p) (hc0 : p.length ≤ cap) :
    Calls Try.prog 203 #[.slice A p.length cap, .int .i64 room, .string s, .int .i64 k] w fun e w' => SplitE p w w' e := by
  have hp := plan_small hpl
  have f := planFlat hpl
  have hhi := f.high
  have hwi := f.wide
  have t := planTG hpl
  have HGI := Aside0.mk (fun W (hW : Below w.heap.size w W) => given_any A cap p hpl room hroom W (Kd.C_below hr0 hW) hc0)
  obtain ⟨ko, hko⟩ := (plan_room hpl room hroom).ex
  obtain ⟨a, b, c, d, hbx, q1, q2, q3, q4, _⟩ := f.box room hroom
  rw [hbx] at hko
  have HRO := Aside0.mk (fun W (hW : Below w.heap.size w W) => L2.spec_l1Room.calls ko A cap p (room : Int) _ _ _ _ W (Kd.C_below hr0 hW) hc0 hko)
  have HNO := Aside0.mk none_any
  have HIN := Aside0.mk l6In_calls
  have HPU : Aside0 (∀ (W : World) (top left h wd : Nat) (T L H D : Int), Below w.heap.size w W → T = top → L = left → H = h → D = wd → top + h ≤ p.length → left + wd ≤ wdP p → Calls Try.prog 229 #[.slice A p.length cap, .int .i64 T, .int .i64 L, .int .i64 H, .int .i64 D, .int .u8 122] W fun e w' => (∃ g c', e = .returned (.slice (some ⟨g, 0, none⟩) p.length c') ∧ w'.ownsRow W.heap.size 9 1 (.slice (some ⟨g, 0, none⟩) p.length c') p.length (encs Value.string (putT p top h left wd 122))) ∧ Below W.heap.size W w') := ⟨fun W top left h wd T L H D hW e1 e2 e3 e4 h1 h2 => by
    subst e1 e2 e3 e4
    refine l1Put_any A cap p top left h wd 122 (by omega) h1 (by omega) (fun i hi => ?_) ⟨by omega, by omega⟩ W (Kd.C_below hr0 hW) hc0
    rw [t.size i hi]; omega⟩
  have HDO : Aside0 (∀ (W : World) (q : List ByteArray) (g c' : Nat), SmallP q → q.length = p.length → W.ownsRow w.heap.size 9 1 (.slice (some ⟨g, 0, none⟩) p.length c') p.length (encs Value.string q) → Calls Try.prog 228 #[.slice (some ⟨g, 0, none⟩) p.length c'] W fun e w' => (∃ A' n' c', e = .returned (.tuple #[.slice A' n' c', .bool (doneB q)]) ∧ (doneB q = true → n' = p.length ∧ w'.ownsRow W.heap.size 9 1 (.slice A' n' c') n' (encs Value.string (namedT q)))) ∧ Below W.heap.size W w') := ⟨fun W q g c' hq hl ho => by
    have := done_any (some ⟨g, 0, none⟩) c' q hq W (Kd.C_of_reads (d := ByteArray.empty) (enc := Value.string) (h1 := fun _ => rfl) (by have := own_reads_of' (d := ByteArray.empty) ho; rwa [← hl] at this)) (by have := own_cap ho; omega)
    rwa [hl] at this⟩
  have HSM := Aside0.mk (fun top h left wd => putT_small hp top h left wd 122)
  have hh4 : (c : Int) ≤ 6 := by omega
  have hw4 : (d : Int) ≤ 6 := by omega
  have ha4 : (a : Int) ≤ 6 := by omega
  have hb4 : (b : Int) ≤ 6 := by omega
  unfold natB at HRO
  obtain ⟨N, hN⟩ : ∃ N, p.length = N := ⟨_, rfl⟩
  obtain ⟨M, hM⟩ : ∃ M, wdP p = M := ⟨_, rfl⟩
  have HLEN := Aside0.mk hN
  have hk1 := hk.1
  have hk3 := hk.2
  rw [hM] at HPU q4
  have HFIN : Aside0 (∀ (W W' : World) (q : List ByteArray) (A' : Option Addr) (n' c' : Nat), q.length = p.length → Below w.heap.size w W → (doneB q = true → n' = p.length ∧ W'.ownsRow W.heap.size 9 1 (.slice A' n' c') n' (encs Value.string (namedT q))) → Below W.heap.size W W' → SplitE p w W' (.returned (.tuple #[.slice A' n' c', .bool (doneB q)]))) := ⟨fun W W' q A' n' c' hl hB h hb => by
    refine ⟨⟨A', n', c', doneB q, namedT q, rfl, fun hd => ?_⟩, hB.trans (hb.mono hB.size)⟩
    obtain ⟨h1, h2⟩ := h hd
    refine ⟨h1, by rw [namedT_len]; exact hl, ?_, own_weaken h2 hB.size⟩
    unfold doneB at hd
    rw [Bool.and_eq_true] at hd
    exact hd.2⟩
  have hq3 : a + c ≤ N := by omega
  clear hr0 hko hpl hp f t hhi hwi hbx hroom hk hM
  rw [hN]
  rw [hN] at HGI HRO HPU HDO
  clear hN
  rcases hs with rfl | rfl
  · by_cases hc : (k : Int) ≤ (c : Int) - 1
    · have HI1 : Aside0 (∀ W, Calls Try.prog 175 #[.int .i64 k, .int .i64 1, .int .i64 ((c : Int) - 1)] W fun e w' => e = .returned (.bool true) ∧ Below W.heap.size W w') := ⟨fun W => by
        have := HIN.out (k : Int) 1 ((c : Int) - 1) W
        rwa [decide_eq_true (by omega)] at this⟩
      go_enter Try.func203, Try.ntmps203
      go_wp2_with fail
      refine (HGI.out _ (Below.refl _ _)).mono ?_
      rintro e w1 ⟨rfl, hb1⟩
      have HB1 := Aside0.mk hb1
      clear hb1
      go_wp2_with fail
      refine (HRO.out _ HB1.out).mono ?_
      rintro e w2 ⟨rfl, hb2⟩
      have HB2 := Aside0.mk (HB1.out.trans (hb2.mono HB1.out.size))
      clear hb2
      go_wp2_with fail
      refine (HI1.out _).mono ?_
      rintro e w3 ⟨rfl, hb3⟩
      have HB3 := Aside0.mk (HB2.out.trans (hb3.mono HB2.out.size))
      clear hb3
      go_wp2_with fail
      refine (HPU.out _ (a + k) b (c - k) d _ _ _ _ HB3.out (by omega) (by omega) (by omega) (by omega) (by omega) (by omega)).mono ?_
      rintro e w4 ⟨⟨g4, c4, rfl, ho4⟩, hb4⟩
      have HB4 := Aside0.mk (HB3.out.trans (hb4.mono HB3.out.size))
      have HO4 := Aside0.mk (own_weaken ho4 HB3.out.size)
      clear hb4 ho4
      go_wp2_with fail
      refine (HDO.out _ _ g4 c4 (HSM.out _ _ _ _) (by rw [putT_len]; exact HLEN.out) HO4.out).mono ?_
      rintro e w5 ⟨⟨A5, n5, c5, rfl, ho5⟩, hb5⟩
      have HO5 := Aside0.mk ho5
      have HB5 := Aside0.mk hb5
      clear ho5 hb5
      go_wp2_with fail
      go_ret2
      exact HFIN.out _ _ _ _ _ _ (by rw [putT_len]) HB4.out (by rw [HLEN.out]; exact HO5.out) HB5.out
    · have HI1 : Aside0 (∀ W, Calls Try.prog 175 #[.int .i64 k, .int .i64 1, .int .i64 ((c : Int) - 1)] W fun e w' => e = .returned (.bool false) ∧ Below W.heap.size W w') := ⟨fun W => by
        have := HIN.out (k : Int) 1 ((c : Int) - 1) W
        rwa [decide_eq_false (by omega)] at this⟩
      go_enter Try.func203, Try.ntmps203
      go_wp2_with fail
      refine (HGI.out _ (Below.refl _ _)).mono ?_
      rintro e w1 ⟨rfl, hb1⟩
      have HB1 := Aside0.mk hb1
      clear hb1
      go_wp2_with fail
      refine (HRO.out _ HB1.out).mono ?_
      rintro e w2 ⟨rfl, hb2⟩
      have HB2 := Aside0.mk (HB1.out.trans (hb2.mono HB1.out.size))
      clear hb2
      go_wp2_with fail
      refine (HI1.out _).mono ?_
      rintro e w3 ⟨rfl, hb3⟩
      have HB3 := Aside0.mk (HB2.out.trans (hb3.mono HB2.out.size))
      clear hb3
      go_wp2_with fail
      refine (HNO.out _).mono ?_
      rintro e w4 ⟨⟨A4, n4, c4, rfl⟩, hb4⟩
      have HB4 := Aside0.mk (HB3.out.trans (hb4.mono HB3.out.size))
      clear hb4
      go_wp2_with fail
      go_ret2
      exact ⟨⟨_, _, _, false, [], rfl, fun h => by cases h⟩, HB4.out⟩
  · by_cases hc : (k : Int) ≤ (d : Int) - 1
    · have HI1 : Aside0 (∀ W, Calls Try.prog 175 #[.int .i64 k, .int .i64 1, .int .i64 ((d : Int) - 1)] W fun e w' => e = .returned (.bool true) ∧ Below W.heap.size W w') := ⟨fun W => by
        have := HIN.out (k : Int) 1 ((d : Int) - 1) W
        rwa [decide_eq_true (by omega)] at this⟩
      go_enter Try.func203, Try.ntmps203
      go_wp2_with fail
      refine (HGI.out _ (Below.refl _ _)).mono ?_
      rintro e w1 ⟨rfl, hb1⟩
      have HB1 := Aside0.mk hb1
      clear hb1
      go_wp2_with fail
      refine (HRO.out _ HB1.out).mono ?_
      rintro e w2 ⟨rfl, hb2⟩
      have HB2 := Aside0.mk (HB1.out.trans (hb2.mono HB1.out.size))
      clear hb2
      go_wp2_with fail
      refine (HI1.out _).mono ?_
      rintro e w3 ⟨rfl, hb3⟩
      have HB3 := Aside0.mk (HB2.out.trans (hb3.mono HB2.out.size))
      clear hb3
      go_wp2_with fail
      refine (HPU.out _ a (b + k) c (d - k) _ _ _ _ HB3.out (by omega) (by omega) (by omega) (by omega) (by omega) (by omega)).mono ?_
      rintro e w4 ⟨⟨g4, c4, rfl, ho4⟩, hb4⟩
      have HB4 := Aside0.mk (HB3.out.trans (hb4.mono HB3.out.size))
      have HO4 := Aside0.mk (own_weaken ho4 HB3.out.size)
      clear hb4 ho4
      go_wp2_with fail
      refine (HDO.out _ _ g4 c4 (HSM.out _ _ _ _) (by rw [putT_len]; exact HLEN.out) HO4.out).mono ?_
      rintro e w5 ⟨⟨A5, n5, c5, rfl, ho5⟩, hb5⟩
      have HO5 := Aside0.mk ho5
      have HB5 := Aside0.mk hb5
      clear ho5 hb5
      go_wp2_with fail
      go_ret2
      exact HFIN.out _ _ _ _ _ _ (by rw [putT_len]) HB4.out (by rw [HLEN.out]; exact HO5.out) HB5.out
    · have HI1 : Aside0 (∀ W, Calls Try.prog 175 #[.int .i64 k, .int .i64 1, .int .i64 ((d : Int) - 1)] W fun e w' => e = .returned (.bool false) ∧ Below W.heap.size W w') := ⟨fun W => by
        have := HIN.out (k : Int) 1 ((d : Int) - 1) W
        rwa [decide_eq_false (by omega)] at this⟩
      go_enter Try.func203, Try.ntmps203
      go_wp2_with fail
      refine (HGI.out _ (Below.refl _ _)).mono ?_
      rintro e w1 ⟨rfl, hb1⟩
      have HB1 := Aside0.mk hb1
      clear hb1
      go_wp2_with fail
      refine (HRO.out _ HB1.out).mono ?_
      rintro e w2 ⟨rfl, hb2⟩
      have HB2 := Aside0.mk (HB1.out.trans (hb2.mono HB1.out.size))
      clear hb2
      go_wp2_with fail
      refine (HI1.out _).mono ?_
      rintro e w3 ⟨rfl, hb3⟩
      have HB3 := Aside0.mk (HB2.out.trans (hb3.mono HB2.out.size))
      clear hb3
      go_wp2_with fail
      refine (HNO.out _).mono ?_
      rintro e w4 ⟨⟨A4, n4, c4, rfl⟩, hb4⟩
      have HB4 := Aside0.mk (HB3.out.trans (hb4.mono HB3.out.size))
      clear hb4
      go_wp2_with fail
      go_ret2
      exact ⟨⟨_, _, _, false, [], rfl, fun h => by cases h⟩, HB4.out⟩
end Go.Proofs.Ytdhnjecbdclmaaa
end
