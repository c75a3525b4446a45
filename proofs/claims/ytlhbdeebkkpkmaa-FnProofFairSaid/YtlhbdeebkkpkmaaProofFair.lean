/- The program's ProofFair: what it returns. Conditions: the list has at most 1000000000 numbers. -/
import Derived.Test.YtlhbdeebkkpkmaaRowsIn
import Derived.Test.YtlhbdeebkkpkmaaSpecFair
namespace Go.Proofs.Ytlhbdeebkkpkmaa
open Go.RowKit Go.Shelf Go.Proofs.YtlhbdeebkkpkmaaW.PrintWords Go.Proofs.YtlhbdeebkkpkmaaW.PrintMore
attribute [local go_sem] Oper.semAt_some
set_option linter.unusedVariables false

abbrev KR : Kd (List Int) := Kd.slice 3 (Kd.int .i64)
def rowsOf (p : List Int) (pre : List F4) : List (List Int) := (proofsT p pre).map t3row
theorem rowsOf_snoc (p : List Int) (pre : List F4) (x : F4) : rowsOf p (pre ++ [x]) = if badOf p x then rowsOf p pre ++ [t3row (t3of x)] else rowsOf p pre := by
  unfold rowsOf proofsT
  rw [List.filter_append, List.map_append, List.map_append]
  cases h : badOf p x <;> simp [h]
theorem minL_key : ∀ (l : List T3) (m : T3), (m.1 ≤ 9 ∧ m.2.1 ≤ 9 ∧ m.2.2 ≤ 9) → (∀ x ∈ l, x.1 ≤ 9 ∧ x.2.1 ≤ 9 ∧ x.2.2 ≤ 9) → minL (t3row m) (l.map t3row) = t3row (minK m l) := by
  intro l
  induction l with
  | nil => intro m _ _; rfl
  | cons y t ih =>
    intro m hm hl
    have hy := hl y (by simp)
    have e1 : minL (t3row m) ((y :: t).map t3row) = minL (if cmpL (t3row y) (t3row m) < 0 then t3row y else t3row m) (t.map t3row) := rfl
    have e2 : minK m (y :: t) = minK (if key y < key m then y else m) t := rfl
    rw [e1, e2]
    by_cases h : key y < key m
    · rw [if_pos ((cmpL_key hy hm).2 h), if_pos h]; exact ih y hy (fun x hx => hl x (List.mem_cons_of_mem _ hx))
    · rw [if_neg (fun h2 => h ((cmpL_key hy hm).1 h2)), if_neg h]; exact ih m hm (fun x hx => hl x (List.mem_cons_of_mem _ hx))
theorem proofs_small {p : List Int} (hp : p.length ≤ 7) {t : T3} (h : t ∈ proofsT p (foursA p.length p.length)) : t.1 ≤ 9 ∧ t.2.1 ≤ 9 ∧ t.2.2 ≤ 9 := by
  have := mem_trip.1 (mem_proofs.1 h).1
  omega
theorem kr_info : (Try.prog.info? 22).map (fun i => (i.zero, i.size, i.bytes)) = some (some (.slice none 0 0), 1, 24) := by kernel_rfl

def HeldG (X : Prop) : Prop := X
theorem held_in {X : Prop} (h : HeldG X) : X := h
theorem fours_len : ∀ n, n < 8 → (foursA n n).length ≤ 100 := by decide
theorem own_apart {α : Type} {d : Kd α} {e base : Nat} {ok : Nat → Prop} {W : World} {v : Value} {xs : List α} (h : d.R e W base ok v xs) : (∀ k, v.ownBlock = some k → base ≤ k ∧ k < W.heap.size) ∧ ∀ k, v.ownBlock = some k → ∀ o, W.heap[k]? = some o → o.isCells = true := by
  obtain ⟨inner, ho⟩ := Kd.R_own h
  refine ⟨fun k hk => ⟨own_base ho k hk, own_lt ho k hk⟩, fun k hk o hO => ?_⟩
  obtain ⟨cells, hc⟩ := own_typed ho k hk
  rw [hc] at hO
  injection hO with hO
  subst hO
  rfl

set_option maxRecDepth 100000 in
set_option maxHeartbeats 8000000 in
theorem proofFair_any (A : Option Addr) (c : Nat) (p : List Int) (hp : p.length ≤ 1000000000) (w : World) (hr : Kd.C (Kd.int .i64) w A p.length p) (hc : p.length ≤ c) :
    Calls Try.prog 24 #[.slice A p.length c] w fun e w' => e = .returned (.tuple #[.string (fairP p).1, .bool (fairP p).2]) ∧ Below w.heap.size w w' := by
  have HR := Aside0.mk hr
  have HPI := Aside0.mk (permIn_any A c p hp w hr hc)
  refine calls_of_wp_marks Try.func24 rfl ?_
  simp only [Try.ntmps24, List.size_toArray, List.length_cons, List.length_nil, Nat.reduceAdd, Nat.reduceSub, Array.replicate_succ, Array.replicate_zero, List.push_toArray, List.append_toArray, List.nil_append, List.cons_append]
  clear hr
  cases hpm : permInB p with
  | false =>
    have hl : fairP p = (ByteArray.empty, false) := by unfold fairP; rw [hpm]; rfl
    have HL := Aside0.mk hl
    rw [hpm] at HPI
    clear hpm hl
    go_wp2_with (go_at_call 22; refine HPI.out.mono ?_; rintro e w1 ⟨rfl, ⟨n1, rfl⟩⟩)
    refine ret_plain ⟨.tuple #[.string ⟨#[]⟩, .bool false], ?_, by rw [HL.out]; rfl, pw_below_drewN (Below.refl _ _) _⟩
    simp [results, Try.f24, go_sem]
  | true =>
    have HM := Aside0.mk hpm
    have HL7 := Aside0.mk (permIn_len hpm)
    rw [hpm] at HPI
    clear hpm
    go_wp2_with (go_at_call 22; refine HPI.out.mono ?_; rintro e w1 ⟨rfl, ⟨n1, rfl⟩⟩)
    obtain ⟨W0, hW0⟩ : ∃ W0, (w.drewN n1).alloc (.cells #[.slice none 0 0] 53) = W0 := ⟨_, rfl⟩
    rw [hW0]
    have hS1 : Boxed W0 w.heap.size 53 (.slice none 0 0) := by rw [← hW0]; exact Boxed.new (w.drewN n1) _ _
    have hZ1 : W0.heap.size = w.heap.size + 1 := by rw [← hW0]; simp
    have hB1 : Below w.heap.size w W0 := by rw [← hW0]; exact (pw_below_drewN (Below.refl _ _) _).alloc (Nat.le_refl _) _
    have HS1 := Aside0.mk hS1
    have HZ1 := Aside0.mk hZ1
    have HB1 := Aside0.mk hB1
    clear hW0 hS1 hZ1 hB1
    refine (fours_any _ _ _ _).mono ?_
    rintro e w' ⟨rfl, rfl⟩
    go_wp2
    have hB2 : Below w.heap.size w (W0.alloc (.cells #[.slice A p.length c] 22)) := HB1.out.alloc (by have := HZ1.out; omega) _
    obtain ⟨n0, hn0⟩ : ∃ n0, (W0.alloc (.cells #[.slice A p.length c] 22)).heap.size = n0 := ⟨_, rfl⟩
    have hn0' : n0 = w.heap.size + 2 := by rw [← hn0]; have := HZ1.out; simp; omega
    have HN0 := Aside0.mk hn0
    have HN1 := Aside0.mk hn0'
    clear hn0 hn0'
    refine wp_range_ro (gf := 53) (lb := #[.pointer (some ⟨W0.heap.size, 0, none⟩)]) rfl (enters_of Try.func53 (by kernel_rfl) rfl)
      (fours1_iter W0.heap.size c A p hp (fun k => k = w.heap.size) w.heap.size (fun k e => by omega) (by have := HZ1.out; omega) w _ rfl hB2 (by simp) HR.out) (Below.refl _ _) (fun _ => rfl)
      (fun pre W => ∃ v, Boxed W w.heap.size 53 v ∧ KR.R 22 W n0 (fun _ => True) v (rowsOf p pre) ∧ (rowsOf p pre).length ≤ pre.length)
      (fun pre W => False)
      (fun s X Y h hc => by obtain ⟨v, h1, h2, h3⟩ := h; exact ⟨v, hc.boxed h1, hc.kdR h2, h3⟩) (fun s X Y h hc => h)
      ⟨_, HS1.out.alloc _, Kd.R_nil _ _ _ _ _, by simp [rowsOf, proofsT]⟩ ?round ?done ?stop
    case round =>
      rintro l pre x W hpre ⟨v, hbs, hrow, hln⟩ hbW
      have hlt : n0 ≤ W.heap.size := by have h1 := hbW.size; rw [HN0.out] at h1; exact h1
      have hpl4 : (pre ++ [x]).length ≤ (foursA p.length p.length).length := hpre.length_le
      have hx := mem_four.1 (hpre.subset (show x ∈ pre ++ [x] by simp))
      have HX4 := Aside0.mk hx
      have HBS := Aside0.mk hbs
      have HROW := Aside0.mk hrow
      have HLT := Aside0.mk hlt
      have HLN := Aside0.mk hln
      have HPR := Aside0.mk hpre
      clear hbs hrow hbW hlt hpre hln hpl4 hx
      rw [HN0.out]
      dsimp only [enc4]
      gi_wp2
      refine ⟨((Rd.refl _ _ _).alloc (by have := HLT.out; omega) _).alloc (by have := HLT.out; omega) _, fun W2 hc hb2 => ?_⟩
      have hsz : W.heap.size + 2 ≤ W2.heap.size := by have := hc.size; simpa using this
      have hpl := hc.same W.heap.size _ (((Below.heap_alloc _ _ _ (by simp)).trans (World.alloc_heap_new W _))) rfl
      have hnb := hc.same (W.heap.size + 1) _ (by have := World.alloc_heap_new (W.alloc (Obj.cells #[Value.int IntKind.i64 ↑x.fst, Value.int IntKind.i64 ↑x.snd.fst, Value.int IntKind.i64 ↑x.snd.snd.fst, Value.int IntKind.i64 ↑x.snd.snd.snd] 38)) (Obj.cells #[Value.int IntKind.i64 (rd p ↑x.fst), Value.int IntKind.i64 (rd p ↑x.snd.fst), Value.int IntKind.i64 (rd p ↑x.snd.snd.fst), Value.int IntKind.i64 (rd p ↑x.snd.snd.snd)] 38); simpa using this) rfl
      have HPL := Aside0.mk hpl
      have m1 := blk_cell hpl 1
      have m2 := blk_cell hpl 2
      have n0c := blk_cell hnb 0
      have n1c := blk_cell hnb 1
      have n2c := blk_cell hnb 2
      have n3c := blk_cell hnb 3
      simp at m1 m2 n0c n1c n2c n3c
      have HSZ := Aside0.mk hsz
      have HB2 := Aside0.mk (hc.boxed ((HBS.out.alloc _).alloc _))
      have HR2 := Aside0.mk (hc.kdR ((Kd.R_below (Kd.R_below HROW.out ((Below.refl _ _).alloc (Nat.le_refl _) _)) ((Below.refl _ _).alloc (Nat.le_refl _) _)) : KR.R 22 ((W.alloc (Obj.cells #[Value.int IntKind.i64 ↑x.fst, Value.int IntKind.i64 ↑x.snd.fst, Value.int IntKind.i64 ↑x.snd.snd.fst, Value.int IntKind.i64 ↑x.snd.snd.snd] 38)).alloc (Obj.cells #[Value.int IntKind.i64 (rd p ↑x.fst), Value.int IntKind.i64 (rd p ↑x.snd.fst), Value.int IntKind.i64 (rd p ↑x.snd.snd.fst), Value.int IntKind.i64 (rd p ↑x.snd.snd.snd)] 38)) n0 (fun _ => True) v (rowsOf p pre)))
      have hxl : x.2.1 ≤ 1000000000 := by have := HX4.out; omega
      clear hsz hpl hnb hc hb2
      by_cases he : (x.2.1 : Int) + 1 = (x.2.2.1 : Int)
      case neg =>
        have hbad : badOf p x = false := by unfold badOf; rw [decide_eq_false (by omega)]; rfl
        have HBD := Aside0.mk hbad
        have b1 : decide ((x.2.1 : Int) + 1 = (x.2.2.1 : Int)) = false := decide_eq_false he
        have b2 : ((x.2.1 : Int) + 1 == (x.2.2.1 : Int)) = false := by simpa using he
        clear hbad he
        gi_wp2_with fail
        refine ⟨trivial, ?_⟩
        gi_wp2
        exact ⟨Rd.refl _ _ _, v, HB2.out, by rw [rowsOf_snoc, HBD.out]; exact HR2.out, by rw [rowsOf_snoc, HBD.out]; have := HLN.out; simp at *; omega⟩
      case pos =>
        have hbad : badOf p x = unfairB (rd p (x.1 : Nat)) (rd p (x.2.1 : Nat)) (rd p (x.2.2.1 : Nat)) (rd p (x.2.2.2 : Nat)) := by unfold badOf; rw [decide_eq_true (by omega), Bool.true_and]
        have HBD := Aside0.mk hbad
        have b1 : decide ((x.2.1 : Int) + 1 = (x.2.2.1 : Int)) = true := decide_eq_true he
        have b2 : ((x.2.1 : Int) + 1 == (x.2.2.1 : Int)) = true := by simpa using he
        clear hbad he
        gi_wp2_with fail
        refine ⟨trivial, rfl, (((callsIn_wide (n := 0)).2 (unfair_any _ _ _ _ _)).inRound l).mono ?_⟩
        rintro e W3 ⟨rfl, hb3⟩
        have HB3 := Aside0.mk (show Boxed W3 w.heap.size 53 v from (hb3.block _ HB2.out.lt).trans HB2.out)
        have HR3 := Aside0.mk (Kd.R_below HR2.out hb3)
        have HPL3 := Aside0.mk ((hb3.block W.heap.size (by have := HSZ.out; omega)).trans HPL.out)
        have HRD := Aside0.mk (show Rd n0 (fun k => k = w.heap.size) W2 W3 from (Rd.refl _ _ _).call (by have h1 := HSZ.out; have h2 := HLT.out; omega) hb3)
        have HS3 := Aside0.mk (show W.heap.size + 2 ≤ W3.heap.size by have := hb3.size; have := HSZ.out; omega)
        clear n0c n1c n2c n3c m1 m2 hb3 HB2 HR2 HPL
        cases ht : badOf p x with
        | false =>
          rw [show unfairB (rd p ↑x.1) (rd p ↑x.2.1) (rd p ↑x.2.2.1) (rd p ↑x.2.2.2) = false from HBD.out.symm.trans ht]
          have HTX := Aside0.mk ht
          clear ht
          gi_wp2
          exact ⟨HRD.out, v, HB3.out, by rw [rowsOf_snoc, HTX.out]; exact HR3.out, by rw [rowsOf_snoc, HTX.out]; have := HLN.out; simp at *; omega⟩
        | true =>
          rw [show unfairB (rd p ↑x.1) (rd p ↑x.2.1) (rd p ↑x.2.2.1) (rd p ↑x.2.2.2) = true from HBD.out.symm.trans ht]
          have HTX := Aside0.mk ht
          clear ht
          have m0 := blk_cell HPL3.out 0
          have m1 := blk_cell HPL3.out 1
          have m3 := blk_cell HPL3.out 3
          simp at m0 m1 m3
          have hb0 := HB3.out.cell
          have hf0 := HB3.out.frozen
          have hap := own_apart HR3.out
          have HAP := Aside0.mk hap
          have hcnt : (rowsOf p pre).length + 1 ≤ 200 := by
            have h1 := fours_len p.length (by have := HL7.out; omega)
            have h2 := HPR.out.length_le
            have h3 := HLN.out
            rw [List.length_append] at h2
            simp at h2
            omega
          have HCN := Aside0.mk hcnt
          have hn0W : n0 ≤ W3.heap.size := by have := HS3.out; have := HLT.out; omega
          have HNW := Aside0.mk hn0W
          clear hap hcnt hn0W
          have HP0 := Aside0.mk (show KR.M (W3.alloc (.cells #[.int .i64 (x.2.1 : Nat), .int .i64 (x.1 : Nat), .int .i64 (x.2.2.2 : Nat)] 3)) n0 (fun k => k = W3.heap.size) (t3row (t3of x)) [.slice (some ⟨W3.heap.size, 0, none⟩) 3 3] from ⟨_, rfl, R_lit3 W3 3 n0 HNW.out _ _ _⟩)
          have HOK := Aside0.mk (show ∀ k, k = W3.heap.size → True ∧ some k ≠ v.ownBlock from fun k hk => ⟨trivial, fun h => by have := (HAP.out.1 k h.symm).2; omega⟩)
          have HO3 := Aside0.mk (show KR.R 22 (W3.alloc (.cells #[.int .i64 (x.2.1 : Nat), .int .i64 (x.1 : Nat), .int .i64 (x.2.2.2 : Nat)] 3)) n0 (fun _ => True) v (rowsOf p pre) from Kd.R_below HR3.out ((Below.refl _ _).alloc (Nat.le_refl _) _))
          have HXS := Aside0.mk (show Value.slice (some ⟨W3.heap.size + 1, 0, none⟩) 1 1 = Value.slice (some ⟨(W3.alloc (.cells #[.int .i64 (x.2.1 : Nat), .int .i64 (x.1 : Nat), .int .i64 (x.2.2.2 : Nat)] 3)).heap.size, 0, none⟩) 1 1 by simp)
          have HBA := Aside0.mk (show n0 ≤ (W3.alloc (.cells #[.int .i64 (x.2.1 : Nat), .int .i64 (x.1 : Nat), .int .i64 (x.2.2.2 : Nat)] 3)).heap.size by have := HNW.out; simp; omega)
          have HCB := Aside0.mk (show ((rowsOf p pre).length + 1) * 24 ≤ 140737488355328 by have := HCN.out; omega)
          gi_wp2_with (gi_at_builtin; refine held_in ?_)
          unfold HeldG
          refine R_appendIn KR (W := W3.alloc (.cells #[.int .i64 (x.2.1 : Nat), .int .i64 (x.1 : Nat), .int .i64 (x.2.2.2 : Nat)] 3)) n0 rfl (.tmp 25) (.tmp 33) 53 22 (.slice none 0 0) 24 rfl Try.underlying53 kr_info rfl Nat.one_pos (Nat.succ_pos 23) v (rowsOf p pre) (t3row (t3of x)) [.slice (some ⟨W3.heap.size, 0, none⟩) 3 3] (fun _ => True) (fun k => k = W3.heap.size) rfl HXS.out HP0.out HOK.out (fun _ _ => trivial) HO3.out HBA.out HCB.out ?_
          intro v1 w1 hr1 hg1
          obtain ⟨A1, c1, rfl⟩ := Kd.R_slice hr1
          obtain ⟨rl, hrl⟩ : ∃ rl, (rowsOf p pre ++ [t3row (t3of x)]).length = rl := ⟨_, rfl⟩
          have HRLN := Aside0.mk hrl
          rw [hrl] at hr1 ⊢
          clear hrl
          have hbx : Boxed w1 w.heap.size 53 v := (HB3.out.alloc _).kept hg1 (Kd.R_ne HO3.out (HB3.out.alloc _) (by decide))
          have HBX := Aside0.mk hbx
          have HR1 := Aside0.mk hr1
          have HG1 := Aside0.mk hg1
          have q1 := hbx.cell
          have q2 := hbx.frozen
          clear hbx hr1 hg1 hb0 hf0
          gi_wp2
          have hn2 : rowsOf p (pre ++ [x]) = rowsOf p pre ++ [t3row (t3of x)] := by rw [rowsOf_snoc, HTX.out]; rfl
          have hw2 : n0 ≤ W2.heap.size := by have := HSZ.out; have := HLT.out; omega
          refine ⟨((HRD.out.alloc hw2 _).grown HG1.out hw2 (fun k hk => ⟨.inl (HAP.out.1 k hk).1, (own_apart HO3.out).2 k hk⟩)).setCell (.inr rfl) _, .slice A1 rl c1, HBX.out.set _, ?_, ?_⟩
          · rw [hn2]
            exact Kd.R_set HR1.out HBX.out (by intro q hq; simp [KR, Kd.slice, Kd.int, Kd.scalar] at hq; omega) 0 _
          · rw [hn2, List.length_append, List.length_append]
            have := HLN.out
            simp
            omega
    case done =>
      rintro D W hD hk ⟨v, hbs, hrow, hln⟩ hK
      rw [HN0.out] at hD hk
      obtain ⟨A1, c1, rfl⟩ := Kd.R_slice hrow
      have hB3 := hB2.trans (hk.below (m := w.heap.size) (fun k e => by omega) (by have := HN1.out; omega))
      have q1 := hbs.cell
      have HB := Aside0.mk hB3
      have HX := Aside0.mk hbs
      have HK := Aside0.mk hK
      have HD := Aside0.mk hD
      have HRW := Aside0.mk hrow
      clear hB3 hbs hK hk hD hrow hln
      cases hrs : proofsT p (foursA p.length p.length) with
      | nil =>
        have hr0 : rowsOf p (foursA p.length p.length) = [] := by unfold rowsOf; rw [hrs]; rfl
        have hl : fairP p = (ByteArray.empty, false) := by unfold fairP; rw [HM.out, if_pos rfl, fair_none hrs]
        have HL := Aside0.mk hl
        rw [hr0] at q1
        clear hrs hr0 hl
        dsimp only
        go_wp2
        refine ret_mark HK.out ?_
        intro W' hc hb
        refine ⟨.tuple #[.string ⟨#[]⟩, .bool false], by simp [results, Try.f24, go_sem], by rw [HL.out]; rfl, HB.out.trans (hb _ (by have h1 := HD.out; have h2 := HN1.out; omega))⟩
      | cons t0 ts =>
        have hr1 : rowsOf p (foursA p.length p.length) = t3row t0 :: ts.map t3row := by unfold rowsOf; rw [hrs]; rfl
        have hsm : ∀ t ∈ t0 :: ts, t.1 ≤ 9 ∧ t.2.1 ≤ 9 ∧ t.2.2 ≤ 9 := fun t ht => proofs_small HL7.out (by rw [hrs]; exact ht)
        have hmin := minL_key ts t0 (hsm t0 (by simp)) (fun x hx => hsm x (List.mem_cons_of_mem _ hx))
        have hfs := fair_some HL7.out hrs
        obtain ⟨m, hm⟩ : ∃ m, minK t0 ts = m := ⟨_, rfl⟩
        have hmm : m ∈ t0 :: ts := by
          rcases (minK_spec ts t0).1 with h | h
          · rw [← hm, h]; simp
          · rw [← hm]; exact List.mem_cons_of_mem _ h
        have hms := hsm m hmm
        rw [hm] at hmin hfs
        have hl : fairP p = (wordsB wBreak (t3text m), true) := by unfold fairP; rw [HM.out, if_pos rfl, hfs]
        have hcnt : (t0 :: ts).length ≤ 100 := by
          rw [← hrs]
          unfold proofsT
          rw [List.length_map]
          exact Nat.le_trans (List.length_filter_le _ _) (fours_len p.length (by have := HL7.out; omega))
        have HC := Aside0.mk (minFunc_any A1 c1 (t3row t0) (ts.map t3row) (by rw [List.length_map]; simp at hcnt; omega) (fun x hx => by
          have : x ∈ (t0 :: ts).map t3row := hx
          obtain ⟨y, _, rfl⟩ := List.mem_map.1 this
          show 3 ≤ 1000000000; omega) W (by have := (Kd.R_reads' HRW.out).2.2; rw [hr1] at this; exact this))
        rw [hmin] at HC
        obtain ⟨rl, hrl⟩ : ∃ rl, (t3row t0 :: ts.map t3row).length = rl := ⟨_, rfl⟩
        have hrl1 : 1 ≤ rl ∧ rl ≤ 100 := by rw [← hrl]; simp at hcnt ⊢; omega
        rw [hr1, hrl] at q1
        rw [hrl] at HC
        have hr11 := hrl1.1
        have hr12 := hrl1.2
        have HL := Aside0.mk hl
        have HMS := Aside0.mk hms
        clear hrs hr1 hsm hmin hfs hm hmm hl hcnt hrl hrl1 hms HRW
        dsimp only
        go_wp2_with (go_at_call 46; refine HC.out.mono ?_; rintro e w' ⟨⟨B, d, rfl, hd, hCB⟩, rfl⟩)
        obtain ⟨j, i, k⟩ := m
        have hC3 : Kd.C (Kd.int .i64) w' B 3 [(j : Int), (i : Int), (k : Int)] := hCB
        have hd3 : 3 ≤ d := hd
        rw [show (t3row (j, i, k)).length = 3 from rfl]
        obtain ⟨ad, hA, f0⟩ := Kd.at_int hC3 0 (by omega) (by omega)
        obtain ⟨ad1, e1, f1⟩ := Kd.at_int hC3 1 (by omega) (by omega)
        obtain ⟨ad2, e2, f2⟩ := Kd.at_int hC3 2 (by omega) (by omega)
        subst hA
        obtain rfl : ad = ad1 := by injection e1
        obtain rfl : ad = ad2 := by injection e2
        rw [show rd [(j : Int), (i : Int), (k : Int)] 0 = j from rfl, show (0 : Int).toNat = 0 from rfl] at f0
        rw [show rd [(j : Int), (i : Int), (k : Int)] 1 = i from rfl, show (1 : Int).toNat = 1 from rfl] at f1
        rw [show rd [(j : Int), (i : Int), (k : Int)] 2 = k from rfl, show (2 : Int).toNat = 2 from rfl] at f2
        rw [show ad.add 0 = ad by cases ad; simp [Addr.add]] at f0
        have f3 := f1
        have f4 := f2
        simp [Addr.add] at f3 f4
        have HDG := Aside0.mk (digits_any (some ⟨w'.heap.size, 0, none⟩) 3 [(i : Int), (j : Int), (k : Int)] (by show 3 ≤ 1000; omega) (rd_t3 (by have := HMS.out; dsimp only at this; omega) (by have := HMS.out; dsimp only at this; omega) (by have := HMS.out; dsimp only at this; omega)) _ (cells3_C (World.alloc_heap_new (w'.drewN 1) (.cells #[.int .i64 (i : Nat), .int .i64 (j : Nat), .int .i64 (k : Nat)] 3))) (Nat.le_refl 3))
        clear e1 e2 hC3 hCB hd
        refine wp_still_tail 9 (by kernel_rfl) (by kernel_rfl) ?_
        simp only [List.take_succ_cons, List.take_zero, List.drop_succ_cons, List.drop_zero]
        repeat still_step
        refine wpStill_nil ?_
        have hln := digBytes_len [(i : Int), (j : Int), (k : Int)]
        obtain ⟨db, hdb⟩ : ∃ db, digBytes [(i : Int), (j : Int), (k : Int)] = db := ⟨_, rfl⟩
        have hdl : db.length ≤ 100 := by rw [← hdb, hln]; show 2 * 3 ≤ 100; omega
        have HDB := Aside0.mk hdb
        rw [hdb] at HDG
        clear hln hdb
        go_wp2_with (go_at_call 39; refine HDG.out.mono ?_; rintro e w4 ⟨rfl, hb4⟩)
        have hDl : D < w'.heap.size := (Array.getElem?_eq_some_iff.1 HK.out).1
        have hK4 : w4.heap[D]? = some (.deferred (some [])) := (hb4.block D (by simp; omega)).trans ((Below.heap_alloc (w'.drewN 1) _ D hDl).trans HK.out)
        have e1 : (fairP p).1 = (⟨#[98, 114, 101, 97, 107]⟩ : ByteArray) ++ ⟨db.toArray⟩ := by rw [HL.out, ← HDB.out]; rfl
        have e2 : (fairP p).2 = true := by rw [HL.out]
        have hB4 : Below w.heap.size w w4 := below_step ((HB.out.trans (pw_below_drewN (Below.refl _ _) 1)).alloc (by have := HB.out.size; simp; omega) _) hb4
        refine ret_mark hK4 ?_
        intro W' hc hb
        exact ⟨.tuple #[.string ((⟨#[98, 114, 101, 97, 107]⟩ : ByteArray) ++ ⟨db.toArray⟩), .bool true], by simp [results, Try.f24, go_sem], by rw [e1, e2], hB4.trans (hb _ (by have h1 := HD.out; have h2 := HN1.out; omega))⟩
    case stop =>
      rintro D pre W hD hk hpre hF hK
      exact hF.elim
end Go.Proofs.Ytlhbdeebkkpkmaa
