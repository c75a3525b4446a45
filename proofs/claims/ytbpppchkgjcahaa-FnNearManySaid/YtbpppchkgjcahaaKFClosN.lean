/- The function that 'settled' hands to 'blank': one step of the scan, at a new letter. Conditions: small numbers. -/
import Derived.Test.YtbpppchkgjcahaaKFClos
namespace Go.Proofs.Ytbpppchkgjcahaa
open Go.RowKit Go.Shelf Go.Proofs.YtbpppchkgjcahaaW.PrintWords Go.Proofs.YtbpppchkgjcahaaW.PrintMore
set_option linter.unusedVariables false
set_option linter.unusedSimpArgs false
theorem box_info : (Try.prog.info? 73).map (fun i => (i.zero, i.size, i.bytes)) = some (some (.agg #[.int .i64 0, .int .i64 0, .int .i64 0, .int .i64 0]), 4, 32) := by kernel_rfl
section
variable {ops : Array Oper} {o : Oper} {a : Act} {K : Act → World → Prop} {Q : Exit → Act → World → Prop}
theorem step_app_box {W : World} (base : Nat) (hw : Region.wanted o (yielded ops a.tmps) = true) (s x : Operand)
    (ho : o.op = .call { callee := .builtin .append, args := #[s, x], argTypes := #[66, 66] })
    (v : Value) (l : List Box) (b : Box) (B : Nat) (hs : a.eval s = v) (hx : a.eval x = .slice (some ⟨B, 0, none⟩) 1 1) (hR : Rooms W base v l)
    (hB : W.heap[B]? = some (.cells #[.int .i64 b.1, .int .i64 b.2.1, .int .i64 b.2.2.1, .int .i64 b.2.2.2] 73 (0, 0))) (hbase : base ≤ W.heap.size) (hl : l.length ≤ 1000)
    (h : ∀ v1 w1, Rooms w1 base v1 (l ++ [b]) → W.grownBy w1 v.ownBlock → K (a.put o.dst v1) w1) :
    if Region.wanted o (yielded ops a.tmps) = true then Oper.wp Try.prog o a W K Q else K (a.put o.dst undef) W := by
  obtain ⟨i0, hi, hzz⟩ := Option.map_eq_some_iff.1 box_info
  simp only [Prod.mk.injEq] at hzz
  obtain ⟨hz0, hz1, hz2⟩ := hzz
  rw [if_pos hw]
  obtain ⟨v1, w1, hr, hown1, hg, _, hat⟩ := run_append_own_at (P := Try.prog) W base 66 o.type 73 i0 _ 4 32 Try.underlying66 hi hz0 hz1 hz2 rfl (by omega) v l.length (boxesV l) hR ⟨B, 0, none⟩ 1 1 (boxCells b) rfl
    (World.news_of_block (cs := #[.int .i64 b.1, .int .i64 b.2.1, .int .i64 b.2.2.1, .int .i64 b.2.2.2]) (t := 73) (fr := (0, 0)) hB) (fun u hu => by
      unfold boxCells at hu
      simp at hu
      rcases hu with rfl | rfl | rfl | rfl <;> rfl) (by simp only [maxLen]; omega) (by omega) hbase
  unfold Oper.wp execOp
  simp only [ho, resolve, invoke, builtin, Sem.run_bind, Sem.run_pure, Result.andThen_ok, List.map_toArray, List.map_cons, List.map_nil, hs, hx, hr]
  refine h v1 w1 ?_ hg
  unfold Rooms
  rw [boxesV_append, List.length_append]
  simpa [boxesV] using hown1
end
theorem box_other {W w1 : World} {base : Nat} {rv : Value} {l : List Box} (hR : Rooms W base rv l) (hg : W.grownBy w1 rv.ownBlock) {j : Nat} {cs : Array Value} {t : Nat} (hj : W.heap[j]? = some (Obj.cells cs t (0, 0))) (ht : t ≠ 73) : w1.heap[j]? = some (Obj.cells cs t (0, 0)) := by
  rw [hg.block j (Array.getElem?_eq_some_iff.1 hj).1 (fun e => by
    obtain ⟨cs', hcs⟩ := own_typed hR j e.symm
    rw [hj] at hcs
    injection hcs with hcs
    injection hcs with _ hcs
    exact ht hcs), hj]
theorem alloc_heap {W : World} {o o' : Obj} {j : Nat} (h : W.heap[j]? = some o') : (W.alloc o).drew.heap[j]? = some o' := by
  show (W.alloc o).heap[j]? = _
  rw [Below.heap_alloc _ _ _ (Array.getElem?_eq_some_iff.1 h).1, h]
set_option maxRecDepth 100000 in
set_option maxHeartbeats 16000000 in
theorem clos_new (base b6 b1 b5 fb mb gb rb h ch wd cr : Nat) (s : Scan) (r c : Nat) (x : Int) (W : World) (H : Clos base b6 b1 b5 fb mb gb h ch s W)
    (hr : r < h) (hc : c < wd) (hh : h ≤ 100) (hw : wd ≤ 100) (hx : 0 ≤ x ∧ x ≤ 1000) (hin : x ∉ s.1) (hl : s.1.length ≤ 100) (hbox : ∀ b ∈ s.2, BoxIn b)
    (g1 : W.cell? ⟨gb, r, none⟩ = some (.slice (some ⟨rb, 0, none⟩) wd cr)) (g2 : W.cell? ⟨rb, c, none⟩ = some (.int .i64 x)) :
    Calls Try.prog 201 #[.int .i64 r, .int .i64 c, .pointer (some ⟨b6, 0, none⟩), .pointer (some ⟨b1, 0, none⟩), .pointer (some ⟨b5, 0, none⟩)] W fun e w' =>
      e = .returned (.int .i64 (s.1.idxOf x : Nat)) ∧ Clos base b6 b1 b5 fb mb gb h ch (stepX s (r, c, 1, 1) x) w' ∧ Below base W w' ∧ KeptC W w' := by
  obtain ⟨n6, n1, n5, ⟨rv0, nf, hro⟩, hm, hlen, hlf, hlm⟩ := H
  obtain ⟨rA, rcp, rfl⟩ := own_slice hro
  have hidx : s.1.idxOf x = s.1.length := List.idxOf_eq_length hin
  obtain ⟨k, hkk⟩ : ∃ k, s.1.length = k := ⟨_, rfl⟩
  have hl2 : s.2.length ≤ 1000 := by omega
  rw [hidx, hkk]
  have c6 : W.cell? ⟨b6, 0, none⟩ = some (.map (some mb)) := by rw [Lib.cell_of_heap n6]; rfl
  have c1 : W.cell? ⟨b1, 0, none⟩ = some (.slice (some ⟨gb, 0, none⟩) h ch) := by rw [Lib.cell_of_heap n1]; rfl
  have c5 : W.cell? ⟨b5, 0, none⟩ = some (.pointer (some ⟨fb, 0, none⟩)) := by rw [Lib.cell_of_heap n5]; rfl
  have cf : W.cell? ⟨fb, 1, none⟩ = some (.slice rA s.2.length rcp) := by rw [Lib.cell_of_heap nf]; rfl
  have lk : ∀ n, (Instr.lookup 196 (.map (some mb)) (.int .i64 x) true).run Try.prog (W.drewN n) = .ok (.tuple #[.int .i64 0, .bool false]) (W.drewN n) := fun n => by
    have h := (hm.move (W' := W.drewN n) rfl).look hx
    rw [if_neg hin, decide_eq_false hin] at h
    exact h
  have lk1 := lk 1
  have ln : ∀ n ty, (Builtin.len_ #[196] ty #[.map (some mb)]).run Try.prog (W.drewN n) = .ok (.int .i64 (k : Nat)) (W.drewN n) := fun n ty => by
    have h := (hm.move (W' := W.drewN n) rfl).len ty
    rw [hkk] at h
    exact h
  have hr0 : (0 : Int) ≤ (r : Int) := by omega
  have hr1 : (r : Int) < (h : Int) := by omega
  have hc0 : (0 : Int) ≤ (c : Int) := by omega
  have hc1 : (c : Int) < (wd : Int) := by omega
  have HK := Aside0.mk hkk
  have HB := Aside0.mk hbox
  have HM := Aside0.mk hm
  have HRO := Aside0.mk hro
  have H6 := Aside0.mk n6
  have H1 := Aside0.mk n1
  have H5 := Aside0.mk n5
  have HF := Aside0.mk nf
  have HIN := Aside0.mk hin
  have HLEN := Aside0.mk hlen
  have HL2 := Aside0.mk hl2
  have HID := Aside0.mk hidx
  clear hkk hbox hm hro n6 n1 n5 nf hin hlen hl2 hidx
  go_enter Try.func201, Try.ntmps201
  go_wp2
  go_quiet (fail)
  go_wp2_with fail
  refine wp_still_tail 9 (by kernel_rfl) (by kernel_rfl) ?_
  simp only [List.take_succ_cons, List.take_zero, List.drop_succ_cons, List.drop_zero]
  repeat still_step
  refine wpStill_nil ?_
  refine MapOf.put _ rfl _ _ _ rfl mb s.1 (HM.out.move rfl) (by omega) x hx HIN.out rfl rfl (by rw [HK.out]; rfl) ?_
  intro w4 hm4 hg4
  have hW4 : Aside0 (∀ j, j < W.heap.size → j ≠ mb → w4.heap[j]? = W.heap[j]?) := ⟨fun j hj hne => hg4.block j hj (fun e => hne (by injection e))⟩
  have hcm : ∀ j cs (t : Nat), W.heap[j]? = some (Obj.cells cs t (0, 0)) → j ≠ mb := fun j cs t hj e => by
    obtain ⟨es, cl, ho⟩ := HM.out.obj
    rw [e, ho] at hj
    injection hj with hj
    cases hj
  have hlt : ∀ j o, W.heap[j]? = some o → j < W.heap.size := fun j o hj => (Array.getElem?_eq_some_iff.1 hj).1
  have HM4 := Aside0.mk hm4
  have hgw : W.grownBy w4 (some mb) := ⟨hg4.os, hg4.tape, hg4.output, hg4.size, hg4.block⟩
  have HG4 : Aside0 (Below base W w4) := ⟨(Below.refl base W).grown hgw (Nat.le_trans hlf (Nat.le_of_lt (hlt _ _ HF.out))) (fun j e => by injection e with e; omega)⟩
  have c5y : w4.cell? ⟨b5, 0, none⟩ = some (.pointer (some ⟨fb, 0, none⟩)) := by rw [← c5]; exact World.cell?_of_block (hW4.out b5 (hlt _ _ H5.out) (hcm _ _ _ H5.out))
  have cfy : w4.cell? ⟨fb, 1, none⟩ = some (.slice rA s.2.length rcp) := by rw [← cf]; exact World.cell?_of_block (hW4.out fb (hlt _ _ HF.out) (hcm _ _ _ HF.out))
  have HRO4 : Aside0 (Rooms w4 base (.slice rA s.2.length rcp) s.2) := ⟨own_move HRO.out (fun j hj => by
    obtain ⟨cs, hcs⟩ := own_typed HRO.out j hj
    exact hW4.out j (hlt _ _ hcs) (hcm _ _ _ hcs))⟩
  have HF4 : Aside0 (w4.heap[fb]? = some (Obj.cells #[.slice none 0 0, .slice rA s.2.length rcp] 68 (0, 0))) := ⟨by rw [hW4.out fb (hlt _ _ HF.out) (hcm _ _ _ HF.out)]; exact HF.out⟩
  have H54 : Aside0 (w4.heap[b5]? = some (Obj.cells #[.pointer (some ⟨fb, 0, none⟩)] 61 (0, 0))) := ⟨by rw [hW4.out b5 (hlt _ _ H5.out) (hcm _ _ _ H5.out)]; exact H5.out⟩
  have H64 : Aside0 (w4.heap[b6]? = some (Obj.cells #[.map (some mb)] 196 (0, 0))) := ⟨by rw [hW4.out b6 (hlt _ _ H6.out) (hcm _ _ _ H6.out)]; exact H6.out⟩
  have H14 : Aside0 (w4.heap[b1]? = some (Obj.cells #[.slice (some ⟨gb, 0, none⟩) h ch] 65 (0, 0))) := ⟨by rw [hW4.out b1 (hlt _ _ H1.out) (hcm _ _ _ H1.out)]; exact H1.out⟩
  have HCM := Aside0.mk hcm
  have HLT := Aside0.mk hlt
  have HBS : Aside0 (base ≤ w4.heap.size) := ⟨Nat.le_trans (Nat.le_trans hlf (Nat.le_of_lt (hlt _ _ HF.out))) hgw.size⟩
  clear hg4 hgw hm4 hcm hlt
  have ne5 : b5 ≠ fb := fun e => by
    have h1 := H54.out
    rw [e, HF4.out] at h1
    injection h1 with h1
    injection h1 with _ h1
    exact absurd h1 (by decide)
  have c5a : ∀ o, (w4.alloc o).drew.cell? ⟨b5, 0, none⟩ = some (.pointer (some ⟨fb, 0, none⟩)) := fun o => by rw [Lib.cell_of_heap (alloc_heap H54.out)]; rfl
  have cfa : ∀ o, (w4.alloc o).drew.cell? ⟨fb, 1, none⟩ = some (.slice rA s.2.length rcp) := fun o => by rw [Lib.cell_of_heap (alloc_heap HF4.out)]; rfl
  have HQ1 : Aside0 (∀ (o : Obj) j, (Value.slice rA s.2.length rcp).ownBlock = some j → (w4.alloc o).drew.heap[j]? = w4.heap[j]?) := ⟨fun o j hj => by
    obtain ⟨cs, hcs⟩ := own_typed HRO4.out j hj
    rw [alloc_heap hcs, hcs]⟩
  go_wp2_with fail
  first | refine wp_region_noPanic ?_ | skip
  refine wp_region_held_drew (S := (fun w' => w'.cell? ⟨b5, 0, none⟩ = some (.pointer (some ⟨fb, 0, none⟩)))) (by kernel_rfl) ?_ (fun hHeld => ?_)
  · ((try dsimp only); (first | exact c5y | exact c5a _ | exact c5z | (go_simp)))
  refine wpAnyH_take (i := 0) (oi := _) (v := ?_) rfl (by kernel_rfl) (by kernel_rfl) (by kernel_rfl) (fun _ _ _ h => h) (Or.inl ⟨by rfl, ?_⟩) (by assumption) ?_
  rotate_left
  · (intro w hSw; (try dsimp only at hSw); go_simp; try with_reducible rfl)
  try simp only [Act.put, List.setIfInBounds_toArray, List.set_cons_zero, List.set_cons_succ]
  refine wpAnyH_take (i := 1) (oi := _) (v := ?_) rfl (by kernel_rfl) (by kernel_rfl) (by kernel_rfl) (fun _ _ _ h => h) (Or.inl ⟨by rfl, ?_⟩) (by assumption) ?_
  rotate_left
  · (intro w hSw; (try dsimp only at hSw); go_simp; try with_reducible rfl)
  try simp only [Act.put, List.setIfInBounds_toArray, List.set_cons_zero, List.set_cons_succ]
  refine wpAnyH_take (i := 2) (oi := _) (v := ?_) rfl (by kernel_rfl) (by kernel_rfl) (by kernel_rfl) (fun _ _ _ h => h) (Or.inl ⟨by rfl, ?_⟩) (by assumption) ?_
  rotate_left
  · (intro w hSw; (try dsimp only at hSw); go_simp; try with_reducible rfl)
  try simp only [Act.put, List.setIfInBounds_toArray, List.set_cons_zero, List.set_cons_succ]
  refine wpAnyH_take (i := 3) (oi := _) (v := ?_) rfl (by kernel_rfl) (by kernel_rfl) (by kernel_rfl) (fun _ _ _ h => h) (Or.inl ⟨by rfl, ?_⟩) (by assumption) ?_
  rotate_left
  · (intro w hSw; (try dsimp only at hSw); go_simp; try with_reducible rfl)
  try simp only [Act.put, List.setIfInBounds_toArray, List.set_cons_zero, List.set_cons_succ]
  refine wpAnyH_take (i := 5) (oi := _) (v := ?_) rfl (by kernel_rfl) (by kernel_rfl) (by kernel_rfl) (fun _ _ _ h => h) (Or.inl ⟨by rfl, ?_⟩) (by assumption) ?_
  rotate_left
  · (intro w hSw; (try dsimp only at hSw); go_simp; try with_reducible rfl)
  try simp only [Act.put, List.setIfInBounds_toArray, List.set_cons_zero, List.set_cons_succ]
  refine wpAnyH_take (i := 6) (oi := _) (v := ?_) rfl (by kernel_rfl) (by kernel_rfl) (by kernel_rfl) (fun _ _ _ h => h) (Or.inl ⟨by rfl, ?_⟩) (by assumption) ?_
  rotate_left
  · (intro w hSw; (try dsimp only at hSw); go_simp; try with_reducible rfl)
  try simp only [Act.put, List.setIfInBounds_toArray, List.set_cons_zero, List.set_cons_succ]
  refine wpAnyH_take (i := 7) (oi := _) (v := ?_) rfl (by kernel_rfl) (by kernel_rfl) (by kernel_rfl) (fun _ _ _ h => h) (Or.inl ⟨by rfl, ?_⟩) (by assumption) ?_
  rotate_left
  · (intro w hSw; (try dsimp only at hSw); go_simp; try with_reducible rfl)
  try simp only [Act.put, List.setIfInBounds_toArray, List.set_cons_zero, List.set_cons_succ]
  refine wpAnyH_ready (rs := [4, 8]) (by kernel_rfl) (by simp) ?_
  refine AllReadyH.cons (o := _) rfl (fun K hK => ?_) ?_
  go_simp
  refine hK.out _ _ ?_ (fun hHeld => ?_)
  · ((try dsimp only); (first | exact c5y | exact c5a _ | exact c5z | (go_simp)))
  clear hK K
  try simp only [Act.put, List.setIfInBounds_toArray, List.set_cons_zero, List.set_cons_succ]
  refine wpAnyH_ready (rs := [8]) (by kernel_rfl) (by simp) ?_
  refine AllReadyH.cons (o := _) rfl (fun K hK => ?_) AllReadyH.nil
  go_simp
  refine hK.out _ _ ?_ (fun hHeld => ?_)
  · ((try dsimp only); (first | exact c5y | exact c5a _ | exact c5z | (go_simp)))
  clear hK K
  try simp only [Act.put, List.setIfInBounds_toArray, List.set_cons_zero, List.set_cons_succ]
  refine wpAnyH_ready (rs := [9]) (by kernel_rfl) (by simp) ?_
  refine AllReadyH.cons (o := _) rfl (fun K hK => ?_) AllReadyH.nil
  (refine step_app_box base (by rfl) (.tmp 39) (.tmp 43) rfl (.slice rA s.2.length rcp) s.2 ((r : Int), (c : Int), 1, 1) w4.heap.size rfl rfl (own_move HRO4.out ?q1) ?q2 ?q3 HL2.out ?_; (case q1 => exact HQ1.out _); (case q2 => exact heap_alloc_new w4 _); (case q3 => exact Nat.le_trans HBS.out (by simp)); intro v5 w5 hro5 hg5; obtain ⟨g5, cp5, rfl, _⟩ := Rooms.form hro5 (by simp); have HRO5 := Aside0.mk hro5; have HX5 : Aside0 (∀ j cs (t : Nat), w4.heap[j]? = some (Obj.cells cs t (0, 0)) → t ≠ 73 → w5.heap[j]? = some (Obj.cells cs t (0, 0))) := ⟨fun j cs t hj ht => box_other (own_move HRO4.out (HQ1.out _)) hg5 (alloc_heap hj) ht⟩; have HG5 := Aside0.mk hg5; have c5z : w5.cell? ⟨b5, 0, none⟩ = some (.pointer (some ⟨fb, 0, none⟩)) := (by rw [Lib.cell_of_heap (HX5.out _ _ _ H54.out (by decide))]; rfl); have cfz : w5.cell? ⟨fb, 1, none⟩ = some (.slice rA s.2.length rcp) := (by rw [Lib.cell_of_heap (HX5.out _ _ _ HF4.out (by decide))]; rfl); have zfz : w5.frozen? ⟨fb, 1, none⟩ = false := Lib.frozen_of_heap (HX5.out _ _ _ HF4.out (by decide)) 1; clear hro5 hg5)
  refine hK.out _ _ ?_ (fun hHeld => ?_)
  · ((try dsimp only); (first | exact c5y | exact c5a _ | exact c5z | (go_simp)))
  clear hK K
  try simp only [Act.put, List.setIfInBounds_toArray, List.set_cons_zero, List.set_cons_succ]
  refine wpAnyH_take (i := 10) (oi := _) (v := ?_) rfl (by kernel_rfl) (by kernel_rfl) (by kernel_rfl) (fun _ _ _ h => h) (Or.inl ⟨by rfl, ?_⟩) (by assumption) ?_
  rotate_left
  · (intro w hSw; (try dsimp only at hSw); go_simp; try with_reducible rfl)
  try simp only [Act.put, List.setIfInBounds_toArray, List.set_cons_zero, List.set_cons_succ]
  refine wpAnyH_take (i := 11) (oi := _) (v := ?_) rfl (by kernel_rfl) (by kernel_rfl) (by kernel_rfl) (fun _ _ _ h => h) (Or.inl ⟨by rfl, ?_⟩) (by assumption) ?_
  rotate_left
  · (intro w hSw; (try dsimp only at hSw); go_simp; try with_reducible rfl)
  try simp only [Act.put, List.setIfInBounds_toArray, List.set_cons_zero, List.set_cons_succ]
  refine wpAnyH_ready (rs := [12]) (by kernel_rfl) (by simp) ?_
  refine AllReadyH.cons (o := _) rfl (fun K hK => ?_) AllReadyH.nil
  go_simp
  refine hK.out _ _ ?_ (fun hHeld => ?_)
  · ((try dsimp only); (first | exact c5y | exact c5a _ | exact c5z | (go_simp)))
  clear hK K
  try simp only [Act.put, List.setIfInBounds_toArray, List.set_cons_zero, List.set_cons_succ]
  refine wpAnyH_done (by kernel_rfl) ?_ _
  first | refine NoPanic.normal ?_ | skip
  rotate_left
  refine AllReadyH.cons (o := _) rfl (fun K hK => ?_) AllReadyH.nil
  go_simp
  refine hK.out _ _ ?_ (fun hHeld => ?_)
  · ((try dsimp only); (first | exact c5y | exact c5a _ | exact c5z | (go_simp)))
  clear hK K
  try simp only [Act.put, List.setIfInBounds_toArray, List.set_cons_zero, List.set_cons_succ]
  refine wpAnyH_ready (rs := [4]) (by kernel_rfl) (by simp) ?_
  refine AllReadyH.cons (o := _) rfl (fun K hK => ?_) AllReadyH.nil
  go_simp
  refine hK.out _ _ ?_ (fun hHeld => ?_)
  · ((try dsimp only); (first | exact c5y | exact c5a _ | exact c5z | (go_simp)))
  clear hK K
  try simp only [Act.put, List.setIfInBounds_toArray, List.set_cons_zero, List.set_cons_succ]
  refine wpAnyH_ready (rs := [9]) (by kernel_rfl) (by simp) ?_
  refine AllReadyH.cons (o := _) rfl (fun K hK => ?_) AllReadyH.nil
  (refine step_app_box base (by rfl) (.tmp 39) (.tmp 43) rfl (.slice rA s.2.length rcp) s.2 ((r : Int), (c : Int), 1, 1) w4.heap.size rfl rfl (own_move HRO4.out ?q1) ?q2 ?q3 HL2.out ?_; (case q1 => exact HQ1.out _); (case q2 => exact heap_alloc_new w4 _); (case q3 => exact Nat.le_trans HBS.out (by simp)); intro v5 w5 hro5 hg5; obtain ⟨g5, cp5, rfl, _⟩ := Rooms.form hro5 (by simp); have HRO5 := Aside0.mk hro5; have HX5 : Aside0 (∀ j cs (t : Nat), w4.heap[j]? = some (Obj.cells cs t (0, 0)) → t ≠ 73 → w5.heap[j]? = some (Obj.cells cs t (0, 0))) := ⟨fun j cs t hj ht => box_other (own_move HRO4.out (HQ1.out _)) hg5 (alloc_heap hj) ht⟩; have HG5 := Aside0.mk hg5; have c5z : w5.cell? ⟨b5, 0, none⟩ = some (.pointer (some ⟨fb, 0, none⟩)) := (by rw [Lib.cell_of_heap (HX5.out _ _ _ H54.out (by decide))]; rfl); have cfz : w5.cell? ⟨fb, 1, none⟩ = some (.slice rA s.2.length rcp) := (by rw [Lib.cell_of_heap (HX5.out _ _ _ HF4.out (by decide))]; rfl); have zfz : w5.frozen? ⟨fb, 1, none⟩ = false := Lib.frozen_of_heap (HX5.out _ _ _ HF4.out (by decide)) 1; clear hro5 hg5)
  refine hK.out _ _ ?_ (fun hHeld => ?_)
  · ((try dsimp only); (first | exact c5y | exact c5a _ | exact c5z | (go_simp)))
  clear hK K
  try simp only [Act.put, List.setIfInBounds_toArray, List.set_cons_zero, List.set_cons_succ]
  refine wpAnyH_take (i := 10) (oi := _) (v := ?_) rfl (by kernel_rfl) (by kernel_rfl) (by kernel_rfl) (fun _ _ _ h => h) (Or.inl ⟨by rfl, ?_⟩) (by assumption) ?_
  rotate_left
  · (intro w hSw; (try dsimp only at hSw); go_simp; try with_reducible rfl)
  try simp only [Act.put, List.setIfInBounds_toArray, List.set_cons_zero, List.set_cons_succ]
  refine wpAnyH_take (i := 11) (oi := _) (v := ?_) rfl (by kernel_rfl) (by kernel_rfl) (by kernel_rfl) (fun _ _ _ h => h) (Or.inl ⟨by rfl, ?_⟩) (by assumption) ?_
  rotate_left
  · (intro w hSw; (try dsimp only at hSw); go_simp; try with_reducible rfl)
  try simp only [Act.put, List.setIfInBounds_toArray, List.set_cons_zero, List.set_cons_succ]
  refine wpAnyH_ready (rs := [12]) (by kernel_rfl) (by simp) ?_
  refine AllReadyH.cons (o := _) rfl (fun K hK => ?_) AllReadyH.nil
  go_simp
  refine hK.out _ _ ?_ (fun hHeld => ?_)
  · ((try dsimp only); (first | exact c5y | exact c5a _ | exact c5z | (go_simp)))
  clear hK K
  try simp only [Act.put, List.setIfInBounds_toArray, List.set_cons_zero, List.set_cons_succ]
  refine wpAnyH_done (by kernel_rfl) ?_ _
  first | refine NoPanic.normal ?_ | skip
  all_goals
    have hidx5 : (s.1 ++ [x]).idxOf x = k := by rw [List.idxOf_append, if_neg HIN.out, HK.out]; simp
    have hro5 : Rooms (w5.setCell ⟨fb, 1, none⟩ (.slice (some ⟨g5, 0, none⟩) (s.2.length + 1) cp5)) base (.slice (some ⟨g5, 0, none⟩) (s.2.length + 1) cp5) (s.2 ++ [((r : Int), (c : Int), 1, 1)]) := by
      have h := HRO5.out
      rw [List.length_append] at h
      exact own_move h (fun j hj => Below.heap_setCell _ _ _ _ (fun e => by
        obtain ⟨cs, hcs⟩ := own_typed h j hj
        have hf := HX5.out _ _ _ HF4.out (by decide)
        rw [e] at hcs
        rw [hf] at hcs
        injection hcs with hcs
        injection hcs with _ hcs
        exact absurd hcs (by decide)))
    have hfb : (w5.setCell ⟨fb, 1, none⟩ (.slice (some ⟨g5, 0, none⟩) (s.2.length + 1) cp5)).heap[fb]? = some (Obj.cells #[.slice none 0 0, .slice (some ⟨g5, 0, none⟩) (s.2.length + 1) cp5] 68 (0, 0)) := by
      have hf := HX5.out _ _ _ HF4.out (by decide)
      simp [World.setCell, Array.getElem?_modify, hf]
    have hfar5 : ∀ j cs (t : Nat), w4.heap[j]? = some (Obj.cells cs t (0, 0)) → t ≠ 73 → j ≠ fb → (w5.setCell ⟨fb, 1, none⟩ (.slice (some ⟨g5, 0, none⟩) (s.2.length + 1) cp5)).heap[j]? = some (Obj.cells cs t (0, 0)) := fun j cs t hj ht hne => by
      rw [Below.heap_setCell _ _ _ _ hne]; exact HX5.out j cs t hj ht
    have htf : ∀ j cs (t : Nat), w4.heap[j]? = some (Obj.cells cs t (0, 0)) → t ≠ 68 → j ≠ fb := fun j cs t hj ht e => by
      rw [e, HF4.out] at hj
      injection hj with hj
      injection hj with _ hj
      exact ht hj.symm
    have hmb5 : w5.heap[mb]? = w4.heap[mb]? := by
      obtain ⟨es, cl, ho⟩ := HM4.out.obj
      have h1 := HG5.out.block mb (by simp; exact Nat.lt_succ_of_lt (Array.getElem?_eq_some_iff.1 ho).1) (fun e => by
        obtain ⟨cs, hcs⟩ := own_typed HRO4.out mb e.symm
        rw [ho] at hcs
        injection hcs with hcs
        cases hcs)
      rw [h1]
      exact Below.heap_alloc _ _ _ (Array.getElem?_eq_some_iff.1 ho).1
    have hmbf : mb ≠ fb := fun e => by
      obtain ⟨es, cl, ho⟩ := HM4.out.obj
      rw [e, HF4.out] at ho
      injection ho with ho
      cases ho
    have hbel5 : Below base W (w5.setCell ⟨fb, 1, none⟩ (.slice (some ⟨g5, 0, none⟩) (s.2.length + 1) cp5)) := by
      have hB4 : Below base W w5 := HG4.out.trans (((Below.refl base w4).alloc HBS.out _ |>.drew).grown HG5.out (Nat.le_trans HBS.out (by simp)) (fun j e => own_base HRO4.out j e))
      exact hB4.setCell (p := ⟨fb, 1, none⟩) hlf _
    have hkept5 : KeptC W (w5.setCell ⟨fb, 1, none⟩ (.slice (some ⟨g5, 0, none⟩) (s.2.length + 1) cp5)) := fun j cs t hj h1 h2 => by
      have h4 : w4.heap[j]? = some (Obj.cells cs t (0, 0)) := by rw [hW4.out j (HLT.out _ _ hj) (HCM.out _ _ _ hj), hj]
      rw [hfar5 j cs t h4 h2 (htf j cs t h4 h1), hj]
    obtain ⟨s5, hs5⟩ : ∃ s5 : Scan, (s.1 ++ [x], s.2 ++ [((r : Int), (c : Int), 1, 1)]) = s5 := ⟨_, rfl⟩
    have hC5 : Clos base b6 b1 b5 fb mb gb h ch s5 (w5.setCell ⟨fb, 1, none⟩ (.slice (some ⟨g5, 0, none⟩) (s.2.length + 1) cp5)) := by
      rw [← hs5]
      refine ⟨hfar5 _ _ _ H64.out (by decide) (htf _ _ _ H64.out (by decide)), hfar5 _ _ _ H14.out (by decide) (htf _ _ _ H14.out (by decide)), hfar5 _ _ _ H54.out (by decide) (htf _ _ _ H54.out (by decide)), ⟨_, hfb, hro5⟩, HM4.out.move ?_, ?_, hlf, hlm⟩
      · rw [Below.heap_setCell _ _ _ _ hmbf]; exact hmb5
      · rw [List.length_append, List.length_append, HLEN.out]; rfl
    have hk5 : s5.1.idxOf x = k := by rw [← hs5]; exact hidx5
    have hbox5 : ∀ b ∈ s5.2, BoxIn b := by
      rw [← hs5]
      intro b hb
      rcases List.mem_append.1 hb with hb | hb
      · exact HB.out b hb
      · simp at hb
        subst hb
        exact ⟨⟨by dsimp only; omega, by dsimp only; omega⟩, ⟨by dsimp only; omega, by dsimp only; omega⟩, ⟨by dsimp only; omega, by dsimp only; omega⟩, ⟨by dsimp only; omega, by dsimp only; omega⟩⟩
    have hks : k < s5.2.length := by rw [← hs5]; show k < (s.2 ++ [_]).length; rw [List.length_append]; have h1 := HK.out; have h2 := HLEN.out; show k < s.2.length + 1; omega
    have HBEL := Aside0.mk hbel5
    have HKEPT := Aside0.mk hkept5
    have HC5 := Aside0.mk hC5
    have HS5 := Aside0.mk hs5
    have HK5 := Aside0.mk hk5
    have HBX5 := Aside0.mk hbox5
    have HKS := Aside0.mk hks
    clear hro5 hfb hfar5 htf hmb5 hmbf hbel5 hkept5 hC5 hs5 hk5 hbox5 hks hidx5 c5y c5a cfy cfa HQ1 HX5 HRO5 HG5 c5z cfz zfz ne5 HRO4 HF4 H54 H64 H14 HCM HLT HBS HG4 hW4 HM4 c6 c1 c5 cf lk lk1 ln H6 H1 H5 HF HM HRO HB
    obtain ⟨W5, hW5⟩ : ∃ W5, W5 = (w5.setCell ⟨fb, 1, none⟩ (.slice (some ⟨g5, 0, none⟩) (s.2.length + 1) cp5)) := ⟨_, rfl⟩
    rw [← hW5] at HBEL HKEPT HC5 ⊢
    clear hW5
    obtain ⟨n6, n1, n5, ⟨rv, nf, hro⟩, hm, hlen5, _, _⟩ := HC5.out
    have hk := HKS.out
    have hbox := HBX5.out
    obtain ⟨rg, rc, rfl, hlc, hbr, hrl, ⟨rcs, hrg⟩, hcell⟩ := hro.form (by omega)
    have hcell' := hcell k hk
    have hbk' := hbox _ (List.getElem_mem hk)
    have hgd : s5.2.getD k (0, 0, 0, 0) = s5.2[k] := by rw [List.getD_eq_getElem?_getD, List.getElem?_eq_getElem hk]; rfl
    obtain ⟨⟨d0, d1, d2, d3⟩, hbk⟩ : ∃ b, s5.2[k] = b := ⟨_, rfl⟩
    rw [hbk] at hcell' hbk' hgd
    obtain ⟨e0, e1, e2, e3⟩ := hcell'
    have c5 : W5.cell? ⟨b5, 0, none⟩ = some (.pointer (some ⟨fb, 0, none⟩)) := by rw [Lib.cell_of_heap n5]; rfl
    have cf : W5.cell? ⟨fb, 1, none⟩ = some (.slice (some ⟨rg, 0, none⟩) s5.2.length rc) := by rw [Lib.cell_of_heap nf]; rfl
    have hk0 : (0 : Int) ≤ (k : Int) := by omega
    have hk1 : (k : Int) < (s5.2.length : Int) := by omega
    have HKL := Aside0.mk hk
    have HM := Aside0.mk hm
    have HRO := Aside0.mk hro
    have H6 := Aside0.mk n6
    have H1 := Aside0.mk n1
    have H5 := Aside0.mk n5
    have HF := Aside0.mk nf
    have HRG := Aside0.mk hrg
    have HLEN5 := Aside0.mk hlen5
    have ne5 : b5 ≠ rg := fun e => by rw [e, hrg] at n5; injection n5 with n5; injection n5 with _ n5; exact absurd n5 (by decide)
    have nef : fb ≠ rg := fun e => by rw [e, hrg] at nf; injection nf with nf; injection nf with _ nf; exact absurd nf (by decide)
    have zr : ∀ j, W5.frozen? ⟨rg, j, none⟩ = false := fun j => Lib.frozen_of_heap hrg j
    have l5 : b5 < W5.heap.size := (Array.getElem?_eq_some_iff.1 n5).1
    have lf : fb < W5.heap.size := (Array.getElem?_eq_some_iff.1 nf).1
    have HZR := Aside0.mk zr
    have HL5 := Aside0.mk l5
    have HLF := Aside0.mk lf
    have HRL := Aside0.mk hrl
    have HCR : Aside0 (BoxIn ((r : Int), (c : Int), 1, 1)) := ⟨⟨by dsimp only; omega, by dsimp only; omega, by dsimp only; omega, by dsimp only; omega⟩⟩
    have HGD := Aside0.mk hgd
    have HBK := Aside0.mk hbk'
    clear zr l5 lf hrl hbox hm hro n6 n1 n5 nf hrg hlen5 hcell hbk hbk' hgd hk HBX5
    go_wp2_with fail
    first | refine wp_region_noPanic ?_ | skip
    refine wp_region_held_drew (S := (fun w' => w'.cell? ⟨b5, 0, none⟩ = some (.pointer (some ⟨fb, 0, none⟩)) ∧ w'.cell? ⟨fb, 1, none⟩ = some (.slice (some ⟨rg, 0, none⟩) s5.2.length rc))) (by kernel_rfl) ?_ (fun hHeld => ?_)
    · ((try dsimp only); (first | exact ⟨c5, cf⟩ | exact ⟨c5x, cfx⟩ | (go_simp)))
    refine wpAnyH_take (i := 0) (oi := _) (v := ?_) rfl (by kernel_rfl) (by kernel_rfl) (by kernel_rfl) (fun _ _ _ h => h) (Or.inl ⟨by rfl, ?_⟩) (by assumption) ?_
    rotate_left
    · (intro w hSw; (try dsimp only at hSw); go_simp; try with_reducible rfl)
    try simp only [Act.put, List.setIfInBounds_toArray, List.set_cons_zero, List.set_cons_succ]
    refine wpAnyH_take (i := 1) (oi := _) (v := ?_) rfl (by kernel_rfl) (by kernel_rfl) (by kernel_rfl) (fun _ _ _ h => h) (Or.inl ⟨by rfl, ?_⟩) (by assumption) ?_
    rotate_left
    · (intro w hSw; (try dsimp only at hSw); go_simp; try with_reducible rfl)
    try simp only [Act.put, List.setIfInBounds_toArray, List.set_cons_zero, List.set_cons_succ]
    refine wpAnyH_take (i := 2) (oi := _) (v := ?_) rfl (by kernel_rfl) (by kernel_rfl) (by kernel_rfl) (fun _ _ _ h => h) (Or.inl ⟨by rfl, ?_⟩) (by assumption) ?_
    rotate_left
    · (intro w hSw; (try dsimp only at hSw); go_simp; try with_reducible rfl)
    try simp only [Act.put, List.setIfInBounds_toArray, List.set_cons_zero, List.set_cons_succ]
    refine wpAnyH_take (i := 3) (oi := _) (v := ?_) rfl (by kernel_rfl) (by kernel_rfl) (by kernel_rfl) (fun _ _ _ h => h) (Or.inl ⟨by rfl, ?_⟩) (by assumption) ?_
    rotate_left
    · (intro w hSw; (try dsimp only at hSw); go_simp; try with_reducible rfl)
    try simp only [Act.put, List.setIfInBounds_toArray, List.set_cons_zero, List.set_cons_succ]
    refine wpAnyH_take (i := 4) (oi := _) (v := ?_) rfl (by kernel_rfl) (by kernel_rfl) (by kernel_rfl) (fun _ _ _ h => h) (Or.inl ⟨by rfl, ?_⟩) (by assumption) ?_
    rotate_left
    · (intro w hSw; (try dsimp only at hSw); go_simp; try with_reducible rfl)
    try simp only [Act.put, List.setIfInBounds_toArray, List.set_cons_zero, List.set_cons_succ]
    refine wpAnyH_take (i := 5) (oi := _) (v := ?_) rfl (by kernel_rfl) (by kernel_rfl) (by kernel_rfl) (fun _ _ _ h => h) (Or.inl ⟨by rfl, ?_⟩) (by assumption) ?_
    rotate_left
    · (intro w hSw; (try dsimp only at hSw); go_simp; try with_reducible rfl)
    try simp only [Act.put, List.setIfInBounds_toArray, List.set_cons_zero, List.set_cons_succ]
    refine wpAnyH_take (i := 6) (oi := _) (v := ?_) rfl (by kernel_rfl) (by kernel_rfl) (by kernel_rfl) (fun _ _ _ h => h) (Or.inl ⟨by rfl, ?_⟩) (by assumption) ?_
    rotate_left
    · (intro w hSw; (try dsimp only at hSw); go_simp; try with_reducible rfl)
    try simp only [Act.put, List.setIfInBounds_toArray, List.set_cons_zero, List.set_cons_succ]
    refine wpAnyH_take (i := 7) (oi := _) (v := ?_) rfl (by kernel_rfl) (by kernel_rfl) (by kernel_rfl) (fun _ _ _ h => h) (Or.inl ⟨by rfl, ?_⟩) (by assumption) ?_
    rotate_left
    · (intro w hSw; (try dsimp only at hSw); go_simp; try with_reducible rfl)
    try simp only [Act.put, List.setIfInBounds_toArray, List.set_cons_zero, List.set_cons_succ]
    refine wpAnyH_take (i := 8) (oi := _) (v := ?_) rfl (by kernel_rfl) (by kernel_rfl) (by kernel_rfl) (fun _ _ _ h => h) (Or.inl ⟨by rfl, ?_⟩) (by assumption) ?_
    rotate_left
    · (intro w hSw; (try dsimp only at hSw); go_simp; try with_reducible rfl)
    try simp only [Act.put, List.setIfInBounds_toArray, List.set_cons_zero, List.set_cons_succ]
    refine wpAnyH_take (i := 9) (oi := _) (v := ?_) rfl (by kernel_rfl) (by kernel_rfl) (by kernel_rfl) (fun _ _ _ h => h) (Or.inl ⟨by rfl, ?_⟩) (by assumption) ?_
    rotate_left
    · (intro w hSw; (try dsimp only at hSw); go_simp; try with_reducible rfl)
    try simp only [Act.put, List.setIfInBounds_toArray, List.set_cons_zero, List.set_cons_succ]
    refine wpAnyH_take (i := 10) (oi := _) (v := ?_) rfl (by kernel_rfl) (by kernel_rfl) (by kernel_rfl) (fun _ _ _ h => h) (Or.inl ⟨by rfl, ?_⟩) (by assumption) ?_
    rotate_left
    · (intro w hSw; (try dsimp only at hSw); go_simp; try with_reducible rfl)
    try simp only [Act.put, List.setIfInBounds_toArray, List.set_cons_zero, List.set_cons_succ]
    refine wpAnyH_take (i := 12) (oi := _) (v := ?_) rfl (by kernel_rfl) (by kernel_rfl) (by kernel_rfl) (fun _ _ _ h => h) (Or.inl ⟨by rfl, ?_⟩) (by assumption) ?_
    rotate_left
    · (intro w hSw; (try dsimp only at hSw); go_simp; try with_reducible rfl)
    try simp only [Act.put, List.setIfInBounds_toArray, List.set_cons_zero, List.set_cons_succ]
    refine wpAnyH_take (i := 13) (oi := _) (v := ?_) rfl (by kernel_rfl) (by kernel_rfl) (by kernel_rfl) (fun _ _ _ h => h) (Or.inl ⟨by rfl, ?_⟩) (by assumption) ?_
    rotate_left
    · (intro w hSw; (try dsimp only at hSw); go_simp; try with_reducible rfl)
    try simp only [Act.put, List.setIfInBounds_toArray, List.set_cons_zero, List.set_cons_succ]
    refine wpAnyH_take (i := 14) (oi := _) (v := ?_) rfl (by kernel_rfl) (by kernel_rfl) (by kernel_rfl) (fun _ _ _ h => h) (Or.inl ⟨by rfl, ?_⟩) (by assumption) ?_
    rotate_left
    · (intro w hSw; (try dsimp only at hSw); go_simp; try with_reducible rfl)
    try simp only [Act.put, List.setIfInBounds_toArray, List.set_cons_zero, List.set_cons_succ]
    refine wpAnyH_ready (rs := [11]) (by kernel_rfl) (by simp) ?_
    refine AllReadyH.cons (o := _) rfl (fun K hK => ?_) AllReadyH.nil
    go_simp
    refine hK.out _ _ ?_ (fun hHeld => ?_)
    · ((try dsimp only); (first | exact ⟨c5, cf⟩ | exact ⟨c5x, cfx⟩ | (go_simp)))
    clear hK K
    try simp only [Act.put, List.setIfInBounds_toArray, List.set_cons_zero, List.set_cons_succ]
    refine wpAnyH_ready (rs := [15]) (by kernel_rfl) (by simp) ?_
    refine AllReadyH.cons (o := _) rfl (fun K hK => ?_) AllReadyH.nil
    (go_simp; go_at_call 178; refine Calls.mono (both_any (d0, d1, d2, d3) (r, c, 1, 1) HBK.out HCR.out _) ?_; rintro e w3 ⟨rfl, hb3⟩; have HB3 := Aside0.mk hb3; have c5x := (hb3.cell (p := ⟨b5, 0, none⟩) HL5.out).trans c5; have cfx := (hb3.cell (p := ⟨fb, 1, none⟩) HLF.out).trans cf; have zx : ∀ j, w3.frozen? ⟨rg, j, none⟩ = false := fun j => (hb3.frozen (p := ⟨rg, j, none⟩) HRL.out).trans (HZR.out j); have e0x := (hb3.cell (p := ⟨rg, k * 4, none⟩) HRL.out).trans e0; have e1x := (hb3.cell (p := ⟨rg, k * 4 + 1, none⟩) HRL.out).trans e1; have e2x := (hb3.cell (p := ⟨rg, k * 4 + 2, none⟩) HRL.out).trans e2; have e3x := (hb3.cell (p := ⟨rg, k * 4 + 3, none⟩) HRL.out).trans e3; clear hb3; unfold boxV; dsimp only)
    refine hK.out _ _ ?_ (fun hHeld => ?_)
    · ((try dsimp only); (first | exact ⟨c5, cf⟩ | exact ⟨c5x, cfx⟩ | (go_simp)))
    clear hK K
    try simp only [Act.put, List.setIfInBounds_toArray, List.set_cons_zero, List.set_cons_succ]
    refine wpAnyH_take (i := 16) (oi := _) (v := ?_) rfl (by kernel_rfl) (by kernel_rfl) (by kernel_rfl) (fun _ _ _ h => h) (Or.inl ⟨by rfl, ?_⟩) (by assumption) ?_
    rotate_left
    · (intro w hSw; (try dsimp only at hSw); go_simp; try with_reducible rfl)
    try simp only [Act.put, List.setIfInBounds_toArray, List.set_cons_zero, List.set_cons_succ]
    refine wpAnyH_ready (rs := [17]) (by kernel_rfl) (by simp) ?_
    refine AllReadyH.cons (o := _) rfl (fun K hK => ?_) AllReadyH.nil
    go_simp
    refine hK.out _ _ ?_ (fun hHeld => ?_)
    · ((try dsimp only); (first | exact ⟨c5, cf⟩ | exact ⟨c5x, cfx⟩ | (go_simp)))
    clear hK K
    try simp only [Act.put, List.setIfInBounds_toArray, List.set_cons_zero, List.set_cons_succ]
    refine wpAnyH_done (by kernel_rfl) ?_ _
    first | refine NoPanic.normal ?_ | skip
    go_wp2
    go_ret
    have hE : stepX s (r, c, 1, 1) x = (s5.1, s5.2.set k (bothB (d0, d1, d2, d3) (r, c, 1, 1))) := by
      unfold stepX addX
      rw [if_neg HIN.out, HID.out, HK.out]
      have h1 := HS5.out
      have h2 := HGD.out
      rw [← h1] at h2 ⊢
      dsimp only at h2 ⊢
      rw [h2]
    have hW3 : ∀ j, j < W5.heap.size → w3.heap[j]? = W5.heap[j]? := fun j hj => HB3.out.block j hj
    have hRO3 : Rooms w3 base (.slice (some ⟨rg, 0, none⟩) s5.2.length rc) s5.2 := own_move HRO.out (fun j hj => hW3 j (HRO.out.lt j hj).2)
    have hfar : ∀ j o, j < W5.heap.size → j ≠ rg → W5.heap[j]? = o → ((((w3.setCell ⟨rg, k * 4, none⟩ (.int .i64 (bothB (d0, d1, d2, d3) (r, c, 1, 1)).1)).setCell ⟨rg, k * 4 + 1, none⟩ (.int .i64 (bothB (d0, d1, d2, d3) (r, c, 1, 1)).2.1)).setCell ⟨rg, k * 4 + 2, none⟩ (.int .i64 (bothB (d0, d1, d2, d3) (r, c, 1, 1)).2.2.1)).setCell ⟨rg, k * 4 + 3, none⟩ (.int .i64 (bothB (d0, d1, d2, d3) (r, c, 1, 1)).2.2.2)).heap[j]? = o :=
      fun j o hj hne ho => by rw [set4_far _ _ _ _ _ hne, hW3 j hj, ho]
    have hne : ∀ j cs (t : Nat), W5.heap[j]? = some (Obj.cells cs t (0, 0)) → t ≠ 73 → j ≠ rg := fun j cs t hj ht e => by
      rw [e, HRG.out] at hj
      injection hj with hj
      injection hj with _ hj
      exact ht hj.symm
    have hlt : ∀ j o, W5.heap[j]? = some o → j < W5.heap.size := fun j o hj => (Array.getElem?_eq_some_iff.1 hj).1
    have hdr : Below base W5 W5.drew := ⟨rfl, rfl, rfl, Nat.le_refl _, fun _ _ => rfl⟩
    refine ⟨rfl, ?_, set4_below (base := base) (W0 := W) (HBEL.out.trans (hdr.trans (HB3.out.mono (by have := HRL.out; show base ≤ W5.heap.size; omega)))) rg (k * 4) hbr _, ?_⟩
    · rw [hE]
      refine ⟨hfar _ _ (hlt _ _ H6.out) (hne _ _ _ H6.out (by decide)) H6.out, hfar _ _ (hlt _ _ H1.out) (hne _ _ _ H1.out (by decide)) H1.out, hfar _ _ (hlt _ _ H5.out) (hne _ _ _ H5.out (by decide)) H5.out, ⟨_, hfar _ _ (hlt _ _ HF.out) (hne _ _ _ HF.out (by decide)) HF.out, ?_⟩, HM.out.move (hfar _ _ HM.out.lt ?_ rfl), ?_, hlf, hlm⟩
      · exact hRO3.set k HKL.out _
      · intro e
        obtain ⟨es, cl, ho⟩ := HM.out.obj
        rw [e, HRG.out] at ho
        injection ho with ho
        cases ho
      · show s5.1.length = (s5.2.set k _).length
        rw [List.length_set]; exact HLEN5.out
    · intro j cs t hj h1 h2
      have h5 := (HKEPT.out j cs t hj h1 h2).trans hj
      rw [hfar j _ (hlt _ _ h5) (hne _ _ _ h5 h2) h5, hj]
theorem clos_any (base b6 b1 b5 fb mb gb rb h ch wd cr : Nat) (s : Scan) (r c : Nat) (x : Int) (W : World) (H : Clos base b6 b1 b5 fb mb gb h ch s W)
    (hr : r < h) (hc : c < wd) (hh : h ≤ 100) (hw : wd ≤ 100) (hx : 0 ≤ x ∧ x ≤ 1000) (hl : s.1.length ≤ 100) (hbox : ∀ b ∈ s.2, BoxIn b)
    (g1 : W.cell? ⟨gb, r, none⟩ = some (.slice (some ⟨rb, 0, none⟩) wd cr)) (g2 : W.cell? ⟨rb, c, none⟩ = some (.int .i64 x)) :
    Calls Try.prog 201 #[.int .i64 r, .int .i64 c, .pointer (some ⟨b6, 0, none⟩), .pointer (some ⟨b1, 0, none⟩), .pointer (some ⟨b5, 0, none⟩)] W fun e w' =>
      e = .returned (.int .i64 (s.1.idxOf x : Nat)) ∧ Clos base b6 b1 b5 fb mb gb h ch (stepX s (r, c, 1, 1) x) w' ∧ Below base W w' ∧ KeptC W w' := by
  by_cases hin : x ∈ s.1
  · exact clos_old base b6 b1 b5 fb mb gb rb h ch wd cr s r c x W H hr hc hh hw hx hin hl hbox g1 g2
  · exact clos_new base b6 b1 b5 fb mb gb rb h ch wd cr s r c x W H hr hc hh hw hx hin hl hbox g1 g2
end Go.Proofs.Ytbpppchkgjcahaa
