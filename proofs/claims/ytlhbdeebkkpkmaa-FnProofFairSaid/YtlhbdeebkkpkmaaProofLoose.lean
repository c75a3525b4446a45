/- The program's ProofLoose: what it returns. Conditions: the list has at most 1000000000 numbers. -/
import Derived.Test.YtlhbdeebkkpkmaaDigits
namespace Go.Proofs.Ytlhbdeebkkpkmaa
open Go.RowKit Go.Shelf Go.Proofs.YtlhbdeebkkpkmaaW.PrintWords Go.Proofs.YtlhbdeebkkpkmaaW.PrintMore
attribute [local go_sem] Oper.semAt_some
set_option linter.unusedVariables false

def f4list (q : F4) : List Int := [(q.1 : Int), (q.2.1 : Int), (q.2.2.1 : Int), (q.2.2.2 : Int)]
def looseFind (p : List Int) : Option F4 := (foursA p.length p.length).find? (tightOf p)
def looseP (p : List Int) : ByteArray × Bool :=
  if permInB p then (match looseFind p with
    | some q => (wordsB wFour (f4list q), true)
    | none => (ByteArray.empty, false)) else (ByteArray.empty, false)

theorem permIn_len {p : List Int} (h : permInB p = true) : p.length ≤ 7 := by
  unfold permInB at h
  simp only [Bool.and_eq_true, decide_eq_true_eq] at h
  omega
theorem four_small {p : List Int} (hp : permInB p = true) {q : F4} (hq : q ∈ foursA p.length p.length) : q.1 ≤ 6 ∧ q.2.1 ≤ 6 ∧ q.2.2.1 ≤ 6 ∧ q.2.2.2 ≤ 6 := by
  have hl := permIn_len hp
  obtain ⟨a, b, c, d⟩ := q
  unfold foursA foursB foursC foursD at hq
  simp only [List.mem_flatMap, List.mem_map, List.mem_range'_1, Prod.mk.injEq] at hq
  obtain ⟨a', ha, b', hb, c', hc, d', hd, rfl, rfl, rfl, rfl⟩ := hq
  dsimp only
  omega
theorem find_first {α : Type} {f : α → Bool} {l pre : List α} {x : α} (hp : pre ++ [x] <+: l) (hn : ∀ y ∈ pre, f y = false) (hx : f x = true) : l.find? f = some x := by
  obtain ⟨r, hr⟩ := hp
  rw [← hr, List.find?_append, List.find?_append, List.find?_eq_none.2 (fun y hy => by rw [hn y hy]; simp)]
  simp [hx]
theorem rd_f4 (q : F4) (h : q.1 ≤ 6 ∧ q.2.1 ≤ 6 ∧ q.2.2.1 ≤ 6 ∧ q.2.2.2 ≤ 6) : ∀ k : Nat, k < (f4list q).length → 0 ≤ rd (f4list q) k ∧ rd (f4list q) k ≤ 9 := by
  intro k hk
  have hk4 : k < 4 := hk
  obtain ⟨a, b, c, d⟩ := q
  dsimp only at h
  unfold rd f4list
  rw [Int.toNat_natCast]
  match k, hk4 with
  | 0, _ => simp; omega
  | 1, _ => simp; omega
  | 2, _ => simp; omega
  | 3, _ => simp; omega

theorem ret_plain {P : Program} {fn : Func} {R : Ending → World → Prop} {tmps : Array Value} {W : World} (h : ∃ v, (results fn tmps).run P W = .ok v W ∧ R (.returned v) W) :
    bodyPostM Fence.wide 0 P fn R .ret { tmps, defers := [] } W := h
theorem cells4_C {W : World} {b : Nat} {a0 a1 a2 a3 : Int} {t : TypeId} (h : W.heap[b]? = some (.cells #[.int .i64 a0, .int .i64 a1, .int .i64 a2, .int .i64 a3] t (0, 0))) : Kd.C (Kd.int .i64) W (some ⟨b, 0, none⟩) 4 [a0, a1, a2, a3] := by
  refine Kd.C_of_reads (d := 0) (enc := Value.int .i64) (h1 := fun _ => rfl) ⟨rfl, by omega, fun _ => ⟨⟨b, 0, none⟩, rfl, fun j hj => ?_⟩⟩
  have h4 : j < 4 := hj
  have := blk_cell h j
  match j, h4 with
  | 0, _ => simpa [Addr.add] using this
  | 1, _ => simpa [Addr.add] using this
  | 2, _ => simpa [Addr.add] using this
  | 3, _ => simpa [Addr.add] using this

set_option maxRecDepth 100000 in
set_option maxHeartbeats 4000000 in
theorem proofLoose_any (A : Option Addr) (c : Nat) (p : List Int) (hp : p.length ≤ 1000000000) (w : World) (hr : Kd.C (Kd.int .i64) w A p.length p) (hc : p.length ≤ c) :
    Calls Try.prog 19 #[.slice A p.length c] w fun e w' => e = .returned (.tuple #[.string (looseP p).1, .bool (looseP p).2]) ∧ Below w.heap.size w w' := by
  have hB0 : Below w.heap.size w ((w.alloc (.cells #[.string ⟨#[]⟩] 9)).alloc (.cells #[.bool false] 4)) := ((Below.refl _ w).alloc (Nat.le_refl _) _).alloc (by simp) _
  have hS : Boxed ((w.alloc (.cells #[.string ⟨#[]⟩] 9)).alloc (.cells #[.bool false] 4)) w.heap.size 9 (.string ⟨#[]⟩) := (Boxed.new w _ _).alloc _
  have hT : Boxed ((w.alloc (.cells #[.string ⟨#[]⟩] 9)).alloc (.cells #[.bool false] 4)) (w.heap.size + 1) 4 (.bool false) := by
    have := Boxed.new (w.alloc (.cells #[.string ⟨#[]⟩] 9)) 4 (.bool false)
    simpa using this
  have hs0 : ((w.alloc (.cells #[.string ⟨#[]⟩] 9)).alloc (.cells #[.bool false] 4)).heap.size = w.heap.size + 2 := by simp
  have HR := Aside0.mk hr
  have HB0 := Aside0.mk hB0
  have HS := Aside0.mk hS
  have HT := Aside0.mk hT
  have HZ := Aside0.mk hs0
  refine calls_of_wp_marks Try.func19 rfl ?_
  simp only [Try.ntmps19, List.size_toArray, List.length_cons, List.length_nil, Nat.reduceAdd, Nat.reduceSub, Array.replicate_succ, Array.replicate_zero, List.push_toArray, List.append_toArray, List.nil_append, List.cons_append]
  clear hB0 hr hS hT hs0
  cases hpm : permInB p with
  | false =>
    have hl : looseP p = (ByteArray.empty, false) := by unfold looseP; rw [hpm]; rfl
    have HL := Aside0.mk hl
    have HM := Aside0.mk hpm
    clear hpm hl
    go_wp2_with (go_at_call 22; refine (permIn_any A c p hp _ (Kd.C_below HR.out HB0.out) hc).mono ?_; rintro e w1 ⟨rfl, ⟨n1, rfl⟩⟩; rw [HM.out])
    refine ret_plain ⟨.tuple #[.string ⟨#[]⟩, .bool false], ?_, by rw [HL.out]; rfl, ?_⟩
    · have h1 := ((HS.out.set (.string ⟨#[]⟩)).other (B' := w.heap.size + 1) (by omega) (.bool false)).cell
      have h2 := ((HT.out.other (B' := w.heap.size) (by omega) (.string ⟨#[]⟩)).set (.bool false)).cell
      simp [results, Try.f19, go_sem]
    · exact ((HB0.out.trans (pw_below_drewN (Below.refl _ _) _)).setCell (p := ⟨w.heap.size, 0, none⟩) (Nat.le_refl _) _).setCell (p := ⟨w.heap.size + 1, 0, none⟩) (by simp) _
  | true =>
    have HM := Aside0.mk hpm
    clear hpm
    go_wp2_with (go_at_call 22; refine (permIn_any A c p hp _ (Kd.C_below HR.out HB0.out) hc).mono ?_; rintro e w1 ⟨rfl, ⟨n1, rfl⟩⟩; rw [HM.out])
    obtain ⟨W0, hW0⟩ : ∃ W0, ((w.alloc (.cells #[.string ⟨#[]⟩] 9)).alloc (.cells #[.bool false] 4)).drewN n1 = W0 := ⟨_, rfl⟩
    rw [hW0]
    have hS1 : Boxed W0 w.heap.size 9 (.string ⟨#[]⟩) := by rw [← hW0]; exact HS.out
    have hT1 : Boxed W0 (w.heap.size + 1) 4 (.bool false) := by rw [← hW0]; exact HT.out
    have hZ1 : W0.heap.size = w.heap.size + 2 := by rw [← hW0]; exact HZ.out
    have hB1 : Below w.heap.size w W0 := by rw [← hW0]; exact HB0.out.trans (pw_below_drewN (Below.refl _ _) _)
    have HS1 := Aside0.mk hS1
    have HT1 := Aside0.mk hT1
    have HZ1 := Aside0.mk hZ1
    have HB1 := Aside0.mk hB1
    clear hW0 hS1 hT1 hZ1 hB1 HS HT HZ HB0
    refine (fours_any _ _ _ _).mono ?_
    rintro e w' ⟨rfl, rfl⟩
    go_wp2
    have hB2 : Below w.heap.size w (W0.alloc (.cells #[.slice A p.length c] 22)) := HB1.out.alloc (by have := HZ1.out; omega) _
    refine wp_range_ro (gf := 53) (lb := #[.pointer (some ⟨W0.heap.size, 0, none⟩)]) rfl (enters_of Try.func53 (by kernel_rfl) rfl)
      (fours1_iter W0.heap.size c A p hp (fun k => k = w.heap.size ∨ k = w.heap.size + 1) w.heap.size (fun k e => by omega) (by have := HZ1.out; omega) w _ rfl hB2 (by simp) HR.out) (Below.refl _ _) (fun _ => rfl)
      (fun pre W => (∀ q ∈ pre, tightOf p q = false) ∧ Boxed W w.heap.size 9 (.string ⟨#[]⟩) ∧ Boxed W (w.heap.size + 1) 4 (.bool false))
      (fun pre W => ∃ pre' x, pre = pre' ++ [x] ∧ (∀ q ∈ pre', tightOf p q = false) ∧ tightOf p x = true ∧ Boxed W w.heap.size 9 (.string (wordsB wFour (f4list x))) ∧ Boxed W (w.heap.size + 1) 4 (.bool true))
      (fun s X Y h hc => ⟨h.1, hc.boxed h.2.1, hc.boxed h.2.2⟩) (fun s X Y h hc => by obtain ⟨a, b, h1, h2, h3, h4, h5⟩ := h; exact ⟨a, b, h1, h2, h3, hc.boxed h4, hc.boxed h5⟩)
      ⟨by simp, HS1.out.alloc _, HT1.out.alloc _⟩ ?round ?done ?stop
    case round =>
      rintro l pre x W hpre ⟨hall, hbs, hbt⟩ hbW
      have hlt : w.heap.size + 3 ≤ W.heap.size := by have h1 := hbW.size; have h2 := HZ1.out; rw [show (W0.alloc (.cells #[.slice A p.length c] 22)).heap.size = W0.heap.size + 1 by simp] at h1; omega
      have HBS := Aside0.mk hbs
      have HBT := Aside0.mk hbt
      have HBW := Aside0.mk hbW
      have HLT := Aside0.mk hlt
      have HAL := Aside0.mk hall
      have HPR := Aside0.mk hpre
      clear hbs hbt hbW hlt hall hpre
      dsimp only [enc4]
      gi_wp2
      refine ⟨((Rd.refl _ _ _).alloc (by have := HLT.out; have := HZ1.out; simp; omega) _).alloc (by have := HLT.out; have := HZ1.out; simp; omega) _, fun W2 hc hb2 => ?_⟩
      have hsz : W.heap.size + 2 ≤ W2.heap.size := by have := hc.size; simpa using this
      have hpl := hc.same W.heap.size _ (((Below.heap_alloc _ _ _ (by simp)).trans (World.alloc_heap_new W _))) rfl
      have hnb := hc.same (W.heap.size + 1) _ (by have := World.alloc_heap_new (W.alloc (Obj.cells #[Value.int IntKind.i64 ↑x.fst, Value.int IntKind.i64 ↑x.snd.fst, Value.int IntKind.i64 ↑x.snd.snd.fst, Value.int IntKind.i64 ↑x.snd.snd.snd] 38)) (Obj.cells #[Value.int IntKind.i64 (rd p ↑x.fst), Value.int IntKind.i64 (rd p ↑x.snd.fst), Value.int IntKind.i64 (rd p ↑x.snd.snd.fst), Value.int IntKind.i64 (rd p ↑x.snd.snd.snd)] 38); simpa using this) rfl
      have n0 := blk_cell hnb 0
      have n1 := blk_cell hnb 1
      have n2 := blk_cell hnb 2
      have n3 := blk_cell hnb 3
      simp at n0 n1 n2 n3
      have HSZ := Aside0.mk hsz
      have HPL := Aside0.mk hpl
      have HBS2 := Aside0.mk (hc.boxed ((HBS.out.alloc _).alloc _))
      have HBT2 := Aside0.mk (hc.boxed ((HBT.out.alloc _).alloc _))
      have HB22 := Aside0.mk hb2
      clear hsz hpl hnb hc hb2
      gi_wp2_with fail
      refine ⟨trivial, rfl, (((callsIn_wide (n := 0)).2 (tight_any _ _ _ _ _)).inRound l).mono ?_⟩
      rintro e W3 ⟨rfl, hb3⟩
      have HBS3 := Aside0.mk (show Boxed W3 w.heap.size 9 (.string ⟨#[]⟩) from (hb3.block _ HBS2.out.lt).trans HBS2.out)
      have HBT3 := Aside0.mk (show Boxed W3 (w.heap.size + 1) 4 (.bool false) from (hb3.block _ HBT2.out.lt).trans HBT2.out)
      have HPL3 := Aside0.mk ((hb3.block W.heap.size (by have := HSZ.out; omega)).trans HPL.out)
      have HRD := Aside0.mk (show Rd (W0.alloc (.cells #[.slice A p.length c] 22)).heap.size (fun k => k = w.heap.size ∨ k = w.heap.size + 1) W2 W3 from (Rd.refl _ _ _).call (by have h1 := HSZ.out; have h2 := HLT.out; have h3 := HZ1.out; rw [show (W0.alloc (.cells #[.slice A p.length c] 22)).heap.size = W0.heap.size + 1 by simp]; omega) hb3)
      have HS3 := Aside0.mk (show W2.heap.size ≤ W3.heap.size from hb3.size)
      clear n0 n1 n2 n3 hb3 HBS HBT HBS2 HBT2 HPL
      cases ht : tightOf p x with
      | false =>
        rw [show tightB (rd p ↑x.1) (rd p ↑x.2.1) (rd p ↑x.2.2.1) (rd p ↑x.2.2.2) = false from ht]
        gi_wp2
        exact ⟨HRD.out, fun q hq => (List.mem_append.1 hq).elim (HAL.out q) (fun e => by simp at e; rw [e]; exact ht), HBS3.out, HBT3.out⟩
      | true =>
        rw [show tightB (rd p ↑x.1) (rd p ↑x.2.1) (rd p ↑x.2.2.1) (rd p ↑x.2.2.2) = true from ht]
        have HTX := Aside0.mk ht
        clear ht
        have hmem : x ∈ foursA p.length p.length := HPR.out.subset (by simp)
        have hsm := four_small HM.out hmem
        have hlen := digBytes_len (f4list x)
        obtain ⟨db, hdb⟩ : ∃ db, digBytes (f4list x) = db := ⟨_, rfl⟩
        have hdl : db.length ≤ 100 := by rw [← hdb, hlen]; show 2 * 4 ≤ 100; omega
        have HDB := Aside0.mk hdb
        have HSM := Aside0.mk hsm
        have HDG := Aside0.mk (digits_any (some ⟨W.heap.size, 0, none⟩) 4 (f4list x) (by show 4 ≤ 1000; omega) (rd_f4 x hsm) W3 (cells4_C HPL3.out) (Nat.le_refl 4))
        rw [hdb] at HDG
        clear hmem hsm hlen hdb
        gi_wp2_with fail
        refine ⟨trivial, rfl, (((callsIn_wide (n := 0)).2 HDG.out).inRound l).mono ?_⟩
        rintro e W4 ⟨rfl, hb4⟩
        have hs4 : Boxed W4 w.heap.size 9 (.string ⟨#[]⟩) := (hb4.block _ HBS3.out.lt).trans HBS3.out
        have ht4 : Boxed W4 (w.heap.size + 1) 4 (.bool false) := (hb4.block _ HBT3.out.lt).trans HBT3.out
        have HRD4 := Aside0.mk (HRD.out.call (by have h1 := HSZ.out; have h2 := HLT.out; have h3 := HZ1.out; rw [show (W0.alloc (.cells #[.slice A p.length c] 22)).heap.size = W0.heap.size + 1 by simp]; omega) hb4)
        have HS4 := Aside0.mk hs4
        have HT4 := Aside0.mk ht4
        have q1 := hs4.cell
        have q2 := hs4.frozen
        have q3 := ht4.cell
        have q4 := ht4.frozen
        clear hs4 ht4
        gi_wp2
        have e1 : wordsB wFour (f4list x) = (⟨#[102, 111, 117, 114]⟩ : ByteArray) ++ ⟨db.toArray⟩ := by unfold wordsB; rw [HDB.out]; rfl
        refine ⟨(HRD4.out.setCell (.inr (.inl rfl)) _).setCell (.inr (.inr rfl)) _, pre, x, rfl, HAL.out, HTX.out, ?_, ?_⟩
        · rw [e1]; exact (HS4.out.set _).other (by omega) _
        · exact (HT4.out.other (by omega) _).set _
    case done =>
      rintro D W hD hk ⟨hall, hbs, hbt⟩ hK
      have q1 := hbs.cell
      have q2 := hbs.frozen
      have q3 := hbt.cell
      have q4 := hbt.frozen
      have hB3 := hB2.trans (hk.below (m := w.heap.size) (fun k e => by omega) (by have := HZ1.out; simp; omega))
      have HB := Aside0.mk hB3
      have HX := Aside0.mk hbs
      have HY := Aside0.mk hbt
      have HK := Aside0.mk hK
      have HD := Aside0.mk hD
      have hl : looseP p = (ByteArray.empty, false) := by
        unfold looseP looseFind; rw [HM.out, if_pos rfl, List.find?_eq_none.2 (fun y hy => by rw [hall y hy]; simp)]
      have HL := Aside0.mk hl
      clear hB3 hbs hbt hK hk hl hall hD
      go_wp2
      refine ret_mark (((KeepsOthers.setCell _ _ _).trans (KeepsOthers.setCell _ _ _)).same _ _ HK.out rfl) ?_
      intro W' hc hb
      have h1 := (hc.boxed ((HX.out.set (.string ⟨#[]⟩)).other (B' := w.heap.size + 1) (by omega) (.bool false))).cell
      have h2 := (hc.boxed ((HY.out.other (B' := w.heap.size) (by omega) (.string ⟨#[]⟩)).set (.bool false))).cell
      refine ⟨.tuple #[.string ⟨#[]⟩, .bool false], by simp [results, Try.f19, go_sem, h1, h2], by rw [HL.out]; rfl, ?_⟩
      exact ((HB.out.setCell (p := ⟨w.heap.size, 0, none⟩) (Nat.le_refl _) _).setCell (p := ⟨w.heap.size + 1, 0, none⟩) (by simp) _).trans (hb _ (by have h1 := HD.out; have h2 := HZ1.out; simp at h1; omega))
    case stop =>
      rintro D pre W hD hk hpre ⟨pre', x, rfl, hall, htx, hbs, hbt⟩ hK
      have hB3 := hB2.trans (hk.below (m := w.heap.size) (fun k e => by omega) (by have := HZ1.out; simp; omega))
      have hl : looseP p = (wordsB wFour (f4list x), true) := by
        unfold looseP looseFind; rw [HM.out, if_pos rfl, find_first hpre hall htx]
      show bodyPostM _ _ _ _ _ .ret _ _
      refine ret_mark hK ?_
      intro W' hc hb
      have h1 := (hc.boxed hbs).cell
      have h2 := (hc.boxed hbt).cell
      refine ⟨.tuple #[.string (wordsB wFour (f4list x)), .bool true], by simp [results, Try.f19, go_sem, h1, h2], by rw [hl], ?_⟩
      exact hB3.trans (hb _ (by have h2 := HZ1.out; simp at hD; omega))
end Go.Proofs.Ytlhbdeebkkpkmaa
