/- The program's settled: a plan out of a grid of letters. Conditions: letters from 0 to 1000, few rows. -/
import Derived.Test.YtbpppchkgjcahaaKFClosN
import Derived.Test.YtbpppchkgjcahaaKFContains
namespace Go.Proofs.Ytbpppchkgjcahaa
open Go.RowKit Go.Shelf Go.Proofs.YtbpppchkgjcahaaW.PrintWords Go.Proofs.YtbpppchkgjcahaaW.PrintMore
set_option linter.unusedVariables false
def GridIn (W : World) (gb : Nat) (rows : List (List Int)) : Prop := ∃ cs : Array Value, W.heap[gb]? = some (Obj.cells cs 34 (0, 0)) ∧ ∀ (r : Nat) (row : List Int), rows[r]? = some row →
  ∃ rb cr, cs[r]? = some (Value.slice (some ⟨rb, 0, none⟩) row.length cr) ∧ ∃ rs : Array Value, W.heap[rb]? = some (Obj.cells rs 3 (0, 0)) ∧ ∀ (c : Nat) (x : Int), row[c]? = some x → rs[c]? = some (Value.int .i64 x)
theorem GridIn.move {W W' : World} {gb : Nat} {rows : List (List Int)} (h : GridIn W gb rows) (hm : ∀ (j : Nat) (cs : Array Value) (t : Nat), W.heap[j]? = some (Obj.cells cs t (0, 0)) → (t = 3 ∨ t = 34) → W'.heap[j]? = some (Obj.cells cs t (0, 0))) : GridIn W' gb rows := by
  obtain ⟨cs, h1, h2⟩ := h
  refine ⟨cs, hm _ _ _ h1 (.inr rfl), fun r row hr => ?_⟩
  obtain ⟨rb, cr, h3, rs, h4, h5⟩ := h2 r row hr
  exact ⟨rb, cr, h3, rs, hm _ _ _ h4 (.inl rfl), h5⟩
theorem GridIn.kept {W W' : World} {gb : Nat} {rows : List (List Int)} (h : GridIn W gb rows) (hk : KeptC W W') : GridIn W' gb rows :=
  h.move fun j cs t hj ht => by rw [hk j cs t hj (by rcases ht with rfl | rfl <;> decide) (by rcases ht with rfl | rfl <;> decide), hj]
theorem GridIn.below {W W' : World} {gb : Nat} {rows : List (List Int)} (h : GridIn W gb rows) (hb : Below W.heap.size W W') : GridIn W' gb rows :=
  h.move fun j cs t hj ht => by rw [hb.block j (Array.getElem?_eq_some_iff.1 hj).1, hj]
def cellOf (rows : List (List Int)) (wd : Nat) (n : Nat) : Int := (rows.getD (n / wd) []).getD (n % wd) 0
def shapeB (rows : List (List Int)) : Bool := decide (1 ≤ rows.length) && decide (rows.length ≤ 6) && decide (1 ≤ (rows.getD 0 []).length) && decide ((rows.getD 0 []).length ≤ 6) && !((List.range rows.length).any fun r => decide (((rows.getD r []).length : Int) ≠ ((rows.getD 0 []).length : Int)))
def scanOf (rows : List (List Int)) : Scan := scan (rows.getD 0 []).length (cellOf rows (rows.getD 0 []).length) (rows.length * (rows.getD 0 []).length)
def numsOf (rows : List (List Int)) : List (List Int) := (List.range rows.length).map fun r => (List.range (rows.getD 0 []).length).map fun c => ((numAt (rows.getD 0 []).length (cellOf rows (rows.getD 0 []).length) (r * (rows.getD 0 []).length + c) : Nat) : Int)
def fullB (rows : List (List Int)) : Bool := decide (((scanOf rows).2.map areaB).sum = ((rows.length : Nat) : Int) * (((rows.getD 0 []).length : Nat) : Int))
def FloorAt (W : World) (base fb : Nat) (nums : List (List Int)) (boxes : List Box) : Prop := ∃ (g h : Nat) (rv : Value) (rows : List (Nat × List Int)), W.heap[fb]? = some (Obj.cells #[.slice (some ⟨g, 0, none⟩) h h, rv] 68 (0, 0)) ∧ GridAt W g h rows ∧ rows.map Prod.snd = nums ∧ rows.length = h ∧ Rooms W base rv boxes ∧ base ≤ fb
def Settled (w w' : World) (rows : List (List Int)) (e : Ending) : Prop := Below w.heap.size w w' ∧
  ((shapeB rows && decide ((scanOf rows).2.length ≤ 9)) = true ∧ (∃ fb, e = .returned (.tuple #[.pointer (some ⟨fb, 0, none⟩), .bool (fullB rows)]) ∧ FloorAt w' w.heap.size fb (numsOf rows) (scanOf rows).2) ∨
   (shapeB rows && decide ((scanOf rows).2.length ≤ 9)) = false ∧ e = .returned (.tuple #[.pointer none, .bool false]))
theorem settled_no {w w' : World} {rows : List (List Int)} (hb : Below w.heap.size w w') (h : shapeB rows = false) : Settled w w' rows (.returned (.tuple #[.pointer none, .bool false])) :=
  ⟨hb, .inr ⟨by rw [h]; rfl, rfl⟩⟩
theorem size1 (w : World) (o : Obj) : (w.alloc o).heap.size = w.heap.size + 1 := by simp
theorem alloc_at (w : World) (o : Obj) (j : Nat) : (w.alloc o).heap[j]? = if j = w.heap.size then some o else w.heap[j]? := by
  by_cases h : j = w.heap.size
  · rw [if_pos h, h]; exact heap_alloc_new w o
  · rw [if_neg h]
    by_cases h2 : j < w.heap.size
    · exact Below.heap_alloc _ _ _ h2
    · rw [Array.getElem?_eq_none (show w.heap.size ≤ j by omega), Array.getElem?_eq_none (show (w.alloc o).heap.size ≤ j by rw [size1]; omega)]
theorem scan_len_le (w : Nat) (f : Nat → Int) (n : Nat) : (scan w f n).1.length ≤ n := by
  induction n with
  | zero => exact Nat.le_refl _
  | succ n ih =>
    rw [scan_fst]
    split
    · omega
    · rw [List.length_append]; simp; omega
theorem scan_boxIn (w : Nat) (f : Nat → Int) (n : Nat) (hn : n ≤ 100) : ∀ b ∈ (scan w f n).2, BoxIn b := by
  intro b hb
  obtain ⟨k, hk, rfl⟩ := List.getElem_of_mem hb
  have hbox := scan_box (w := w) (f := f) n k (by rw [scan_len]; exact hk) hk
  obtain ⟨p1, p2, p3, p4⟩ := box_nonneg hbox
  obtain ⟨m1, a1, a2, a3⟩ := hbox.top
  obtain ⟨m2, b1, b2, b3⟩ := hbox.low
  obtain ⟨m3, c1, c2, c3⟩ := hbox.left
  obtain ⟨m4, d1, d2, d3⟩ := hbox.right
  have e1 := Nat.div_le_self m1 w
  have e2 := Nat.div_le_self m2 w
  have e3 := Nat.mod_le m3 w
  have e4 := Nat.mod_le m4 w
  exact ⟨⟨p1, by omega⟩, ⟨p2, by omega⟩, ⟨by omega, by omega⟩, ⟨by omega, by omega⟩⟩
theorem cellOf_at {rows : List (List Int)} {wd r c : Nat} {row : List Int} (hc : c < wd) (hr : rows[r]? = some row) : cellOf rows wd (r * wd + c) = row.getD c 0 := by
  unfold cellOf
  have hg : rows.getD r [] = row := by rw [List.getD_eq_getElem?_getD, hr]; rfl
  rw [(div_row hc).1, (div_row hc).2, hg]
def ScanI (N gb h ch wd : Nat) (rows : List (List Int)) (n : Nat) (W : World) : Prop := Clos N (N + 1 + 1 + 1 + 1 + 1) N (N + 1 + 1 + 1) (N + 1 + 1) (N + 1 + 1 + 1 + 1) gb h ch (scan wd (cellOf rows wd) n) W ∧ GridIn W gb rows ∧ W.heap[N + 1]? = some (Obj.cells #[.int .i64 wd] 3 (0, 0))
theorem ScanI.leaves {N gb h ch wd : Nat} {rows : List (List Int)} {n hb : Nat} {W W' : World} (hI : ScanI N gb h ch wd rows n W) (hN : hb = N + 6) (hg : gb < N) (hrow : ∀ (j : Nat) (cs : Array Value) (t : Nat), W.heap[j]? = some (Obj.cells cs t (0, 0)) → True) (hl : Leaves hb W W') (hgi : GridIn W' gb rows) : ScanI N gb h ch wd rows n W' := by
  obtain ⟨⟨n6, n1, n5, ⟨rv, nf, hro⟩, hm, hlen, hlf, hlm⟩, _, h4⟩ := hI
  have lt : ∀ j o, W.heap[j]? = some o → j < W.heap.size := fun j o hj => (Array.getElem?_eq_some_iff.1 hj).1
  have low : ∀ j o, j < hb → W.heap[j]? = some o → W'.heap[j]? = some o := fun j o hj ho => by rw [hl.2 j (lt j o ho) (.inl hj), ho]
  refine ⟨⟨low _ _ (by omega) n6, low _ _ (by omega) n1, low _ _ (by omega) n5, ⟨rv, low _ _ (by omega) nf, own_move hro (fun j hj => ?_)⟩, hm.move (hl.2 _ hm.lt (.inl (by omega))), hlen, hlf, hlm⟩, hgi, low _ _ (by omega) h4⟩
  obtain ⟨cs, hcs⟩ := own_typed hro j hj
  refine hl.2 j (lt _ _ hcs) (.inr fun cs' t ht => ?_)
  rw [hcs] at ht
  injection ht with ht
  injection ht with _ ht
  rw [← ht]
  exact ⟨by decide, by decide⟩
theorem GridIn.low {W W' : World} {gb hb : Nat} {rows : List (List Int)} (h : GridIn W gb rows) (hm : ∀ j, j < hb → j < W.heap.size → W'.heap[j]? = W.heap[j]?) (hlow : ∃ w0 : World, GridIn w0 gb rows ∧ w0.heap.size ≤ hb ∧ ∀ j, j < w0.heap.size → W.heap[j]? = w0.heap[j]?) : GridIn W' gb rows := by
  obtain ⟨w0, h0, hs, he⟩ := hlow
  refine h0.move fun j cs t hj _ => ?_
  have hlt := (Array.getElem?_eq_some_iff.1 hj).1
  have hW := he j hlt
  have hj2 : W.heap[j]? = some (Obj.cells cs t (0, 0)) := by rw [hW, hj]
  rw [hm j (by omega) (Array.getElem?_eq_some_iff.1 hj2).1, hj2]
theorem new_at2 {w : World} {o o' : Obj} : ((w.alloc o).alloc o').heap[w.heap.size + 1]? = some o' := by
  have h := heap_alloc_new (w.alloc o) o'
  rwa [show (w.alloc o).heap.size = w.heap.size + 1 by simp] at h
theorem high_any (fb : Nat) (A : Option Addr) (h c : Nat) (w : World) (hc : w.cell? ⟨fb, 0, none⟩ = some (.slice A h c)) :
    Calls Try.prog 124 #[.pointer (some ⟨fb, 0, none⟩)] w fun e w' => e = .returned (.int .i64 h) ∧ w' = w := by
  go_enter Try.func124, Try.ntmps124
  go_wp2
  go_ret
  exact ⟨rfl, rfl⟩
theorem wide_any (fb g : Nat) (h c : Nat) (hh : 1 ≤ h) (A : Option Addr) (wd cr : Nat) (w : World) (hc : w.cell? ⟨fb, 0, none⟩ = some (.slice (some ⟨g, 0, none⟩) h c)) (hr : w.cell? ⟨g, 0, none⟩ = some (.slice A wd cr)) :
    Calls Try.prog 125 #[.pointer (some ⟨fb, 0, none⟩)] w fun e w' => e = .returned (.int .i64 wd) ∧ w' = w := by
  go_enter Try.func125, Try.ntmps125
  go_wp2
  go_ret
  exact ⟨rfl, rfl⟩
theorem area_bound {b : Box} (hb : BoxIn b) : 0 ≤ areaB b ∧ areaB b ≤ 1000000 := by
  obtain ⟨_, _, ⟨h2, h3⟩, ⟨h4, h5⟩⟩ := hb
  refine ⟨Int.mul_nonneg h2 h4, ?_⟩
  have := Int.mul_le_mul h3 h5 h4 (by omega)
  unfold areaB
  omega
theorem sum_bound (l : List Box) (hb : ∀ b ∈ l, BoxIn b) : 0 ≤ (l.map areaB).sum ∧ (l.map areaB).sum ≤ l.length * 1000000 := by
  induction l with
  | nil => exact ⟨Int.le_refl _, Int.le_refl _⟩
  | cons a t ih =>
    have h1 := ih (fun b h => hb b (List.mem_cons_of_mem _ h))
    have h2 := area_bound (hb a (by simp))
    simp only [List.map_cons, List.sum_cons, List.length_cons]
    constructor
    · omega
    · push_cast; omega
theorem sum_take (l : List Box) (k : Nat) (hk : k < l.length) : ((l.take (k + 1)).map areaB).sum = ((l.take k).map areaB).sum + areaB l[k] := by
  rw [List.take_succ_eq_append_getElem hk, List.map_append, List.sum_append]
  simp
theorem enter143 (args : Array Value) (W : World) : (callFunc 200 args).run Try.prog W = .ok (.enter 200 args) W := by kernel_rfl
theorem enter144 (args : Array Value) (W : World) : (callFunc 201 args).run Try.prog W = .ok (.enter 201 args) W := by kernel_rfl
set_option maxRecDepth 100000 in
set_option maxHeartbeats 16000000 in
theorem settled_any (gb ch : Nat) (rows : List (List Int)) (hl : rows.length ≤ 1000000000) (w : World) (hG : GridIn w gb rows) (hx : ∀ row ∈ rows, ∀ x ∈ row, (0 : Int) ≤ x ∧ x ≤ 1000) (hrl : ∀ row ∈ rows, row.length ≤ 1000000000) :
    Calls Try.prog 166 #[.slice (some ⟨gb, 0, none⟩) rows.length ch] w fun e w' => Settled w w' rows e := by
  obtain ⟨h, hh⟩ : ∃ h, rows.length = h := ⟨_, rfl⟩
  rw [hh]
  have HH := Aside0.mk hh
  have HGI := Aside0.mk hG
  have HX := Aside0.mk hx
  have hmm := @run_makeMap Try.prog
  have hgl : gb < w.heap.size := by obtain ⟨cs, h1, _⟩ := hG; exact (Array.getElem?_eq_some_iff.1 h1).1
  have hhl : h ≤ 1000000000 := by omega
  clear hx
  by_cases h1 : h < 1
  · have hs : shapeB rows = false := by unfold shapeB; rw [decide_eq_false (show ¬ 1 ≤ rows.length by omega)]; rfl
    have HS := Aside0.mk hs
    clear hs hh hG hrl
    go_enter Try.func166, Try.ntmps166
    go_wp2
    go_ret2
    exact settled_no ((Below.refl _ _).alloc (Nat.le_refl _) _) HS.out
  by_cases h6 : 6 < h
  · have hs : shapeB rows = false := by unfold shapeB; rw [decide_eq_false (show ¬ rows.length ≤ 6 by omega), Bool.and_false]; rfl
    have HS := Aside0.mk hs
    clear hs hh hG hrl
    go_enter Try.func166, Try.ntmps166
    go_wp2
    go_ret2
    exact settled_no ((Below.refl _ _).alloc (Nat.le_refl _) _) HS.out
  obtain ⟨cs, hcs, hcr⟩ := hG
  obtain ⟨row0, hrow0⟩ : ∃ row0, rows[0]? = some row0 := ⟨rows[0]'(by omega), List.getElem?_eq_getElem (by omega)⟩
  obtain ⟨rb0, cr0, hc0, _⟩ := hcr 0 row0 hrow0
  have hg0 : rows.getD 0 [] = row0 := by rw [List.getD_eq_getElem?_getD, hrow0]; rfl
  obtain ⟨wd, hwd⟩ : ∃ wd, row0.length = wd := ⟨_, rfl⟩
  rw [hwd] at hc0
  have hwl : wd ≤ 1000000000 := by rw [← hwd]; exact hrl _ (List.mem_of_getElem? hrow0)
  have c0 : w.cell? ⟨gb, 0, none⟩ = some (.slice (some ⟨rb0, 0, none⟩) wd cr0) := by rw [Lib.cell_of_heap hcs, hc0]
  have HWD : Aside0 ((rows.getD 0 []).length = wd) := ⟨by rw [hg0]; exact hwd⟩
  have HCS := Aside0.mk hcs
  have HCR := Aside0.mk hcr
  clear hcs hcr hrow0 hc0 hg0 hwd hrl hh
  by_cases h3 : wd < 1
  · have hs : shapeB rows = false := by unfold shapeB; rw [HWD.out, decide_eq_false (show ¬ 1 ≤ wd by omega), Bool.and_false]; rfl
    have HS := Aside0.mk hs
    clear hs
    go_enter Try.func166, Try.ntmps166
    go_wp2
    go_ret2
    exact settled_no ((Below.refl _ _).alloc (Nat.le_refl _) _) HS.out
  by_cases h5 : 6 < wd
  · have hs : shapeB rows = false := by unfold shapeB; rw [HWD.out, decide_eq_false (show ¬ wd ≤ 6 by omega), Bool.and_false]; rfl
    have HS := Aside0.mk hs
    clear hs
    go_enter Try.func166, Try.ntmps166
    go_wp2
    go_ret2
    exact settled_no ((Below.refl _ _).alloc (Nat.le_refl _) _) HS.out
  go_enter Try.func166, Try.ntmps166
  have hmf : ∀ (fn : Fn) (first cap : Array Value) (w : World), (Instr.makeFunc fn first cap).run Try.prog w = .ok (.func fn first cap) w := fun _ _ _ _ => rfl
  have HWS : Aside0 (∀ r, r < h → ∃ rb cr, cs[r]? = some (Value.slice (some ⟨rb, 0, none⟩) (rows.getD r []).length cr)) := ⟨fun r hr => by
    have hr2 : r < rows.length := by rw [HH.out]; exact hr
    obtain ⟨rb, cr, e, _⟩ := HCR.out r rows[r] (List.getElem?_eq_getElem hr2)
    refine ⟨rb, cr, ?_⟩
    rw [e, List.getD_eq_getElem?_getD, List.getElem?_eq_getElem hr2]; rfl⟩
  have hh0 : decide ((h : Int) < 1) = false := decide_eq_false (by omega)
  have hh6 : decide (6 < (h : Int)) = false := decide_eq_false (by omega)
  have hw0 : decide ((wd : Int) < 1) = false := decide_eq_false (by omega)
  have hw6 : decide (6 < (wd : Int)) = false := decide_eq_false (by omega)
  go_wp2_with fail
  refine Calls.mono (contains_any gb h ch (by omega) (fun r => cs.getD r undef) (fun r => decide (((rows.getD r []).length : Int) ≠ (wd : Int))) 200 #[.pointer (some ⟨w.heap.size + 1, 0, none⟩)] _ ?k1 enter143 ?k3) ?_
  case k1 =>
    intro r hr
    obtain ⟨rb, cr, e⟩ := HWS.out r hr
    rw [Lib.cell_of_heap (show ((w.alloc _).alloc _).heap[gb]? = _ by rw [Below.heap_alloc _ _ _ (by simp; omega), Below.heap_alloc _ _ _ hgl]; exact HCS.out), e, Array.getD_eq_getD_getElem?, e]
    rfl
  case k3 =>
    intro r hr
    obtain ⟨rb, cr, e⟩ := HWS.out r hr
    have he : cs.getD r undef = Value.slice (some ⟨rb, 0, none⟩) (rows.getD r []).length cr := by rw [Array.getD_eq_getD_getElem?, e]; rfl
    show Calls Try.prog _ (#[cs.getD r undef] ++ _) _ _
    rw [he]
    exact long_any _ _ _ _ (wd : Int) _ (by rw [Lib.cell_of_heap (show ((w.alloc _).alloc _).heap[w.heap.size + 1]? = _ from new_at2)]; rfl)
  rintro e w' ⟨rfl, rfl⟩
  cases hany : (List.range h).any fun r => decide (((rows.getD r []).length : Int) ≠ (wd : Int)) with
  | true =>
    have hs : shapeB rows = false := by unfold shapeB; rw [HWD.out, HH.out, hany]; simp
    have HS := Aside0.mk hs
    clear hs hany
    go_wp2_with fail
    go_ret2
    exact settled_no (((Below.refl _ _).alloc (Nat.le_refl _) _).alloc (by simp) _) HS.out
  | false =>
    have hs : shapeB rows = true := by
      unfold shapeB; rw [HWD.out, HH.out, hany, decide_eq_true (show 1 ≤ h by omega), decide_eq_true (show h ≤ 6 by omega), decide_eq_true (show 1 ≤ wd by omega), decide_eq_true (show wd ≤ 6 by omega)]; rfl
    have HS := Aside0.mk hs
    clear hs hany
    go_wp2_with fail
    obtain ⟨N, hN⟩ : ∃ N, w.heap.size = N := ⟨_, rfl⟩
    obtain ⟨W8, hW8⟩ : ∃ W8, W8 = (((((w.alloc (Obj.cells #[Value.slice (some ⟨gb, 0, none⟩) h ch] 65)).alloc (Obj.cells #[Value.int .i64 wd] 3)).alloc (Obj.cells #[Value.slice none 0 0, Value.slice none 0 0] 68)).alloc (Obj.cells #[Value.pointer (some ⟨w.heap.size + 1 + 1, 0, none⟩)] 61)).alloc (Obj.map #[] 0)).alloc (Obj.cells #[Value.map (some (w.heap.size + 1 + 1 + 1 + 1))] 196) := ⟨_, rfl⟩
    rw [← hW8]
    have s8 : W8.heap.size = N + 6 := by rw [hW8, ← hN]; simp
    have k1 : W8.heap[N]? = some (Obj.cells #[Value.slice (some ⟨gb, 0, none⟩) h ch] 65 (0, 0)) := by rw [hW8, ← hN]; simp only [alloc_at, size1]; repeat (first | rw [if_pos trivial] | rw [if_neg (by omega)] | rw [if_pos (by omega)])
    have k4 : W8.heap[N + 1]? = some (Obj.cells #[Value.int .i64 wd] 3 (0, 0)) := by rw [hW8, ← hN]; simp only [alloc_at, size1]; repeat (first | rw [if_pos trivial] | rw [if_neg (by omega)] | rw [if_pos (by omega)])
    have kf : W8.heap[N + 1 + 1]? = some (Obj.cells #[Value.slice none 0 0, Value.slice none 0 0] 68 (0, 0)) := by rw [hW8, ← hN]; simp only [alloc_at, size1]; repeat (first | rw [if_pos trivial] | rw [if_neg (by omega)] | rw [if_pos (by omega)])
    have k5 : W8.heap[N + 1 + 1 + 1]? = some (Obj.cells #[Value.pointer (some ⟨N + 1 + 1, 0, none⟩)] 61 (0, 0)) := by rw [hW8, ← hN]; simp only [alloc_at, size1]; repeat (first | rw [if_pos trivial] | rw [if_neg (by omega)] | rw [if_pos (by omega)])
    have km : W8.heap[N + 1 + 1 + 1 + 1]? = some (Obj.map #[] 0) := by rw [hW8, ← hN]; simp only [alloc_at, size1]; repeat (first | rw [if_pos trivial] | rw [if_neg (by omega)] | rw [if_pos (by omega)])
    have k6 : W8.heap[N + 1 + 1 + 1 + 1 + 1]? = some (Obj.cells #[Value.map (some (N + 1 + 1 + 1 + 1))] 196 (0, 0)) := by rw [hW8, ← hN]; simp only [alloc_at, size1]; repeat (first | rw [if_pos trivial] | rw [if_neg (by omega)] | rw [if_pos (by omega)])
    have b8 : Below N w W8 := by rw [hW8, ← hN]; repeat (first | exact Below.refl _ _ | apply below_alloc)
    clear hW8
    have hI0 : ScanI N gb h ch wd rows 0 W8.drew := by
      refine ⟨⟨k6, k1, k5, ⟨_, kf, World.ownsRow_nil _ _ _ _⟩, ?_, rfl, by omega, by omega⟩, ?_, k4⟩
      · exact ⟨.map [], ⟨#[], 0, km, ⟨by simp, MapKept.stamped_empty 0, by simp⟩, Nat.le_refl _, rfl⟩, ⟨[], rfl, List.Pairwise.nil⟩, rfl, fun x hx => (by simp [scan] at hx), fun x hx => rfl⟩
      · exact HGI.out.below (by rw [hN]; exact b8.drew)
    have c5 : W8.cell? ⟨N + 1 + 1 + 1, 0, none⟩ = some (.pointer (some ⟨N + 1 + 1, 0, none⟩)) := by rw [Lib.cell_of_heap k5]; rfl
    have c1 : W8.cell? ⟨N, 0, none⟩ = some (.slice (some ⟨gb, 0, none⟩) h ch) := by rw [Lib.cell_of_heap k1]; rfl
    have c4 : W8.cell? ⟨N + 1, 0, none⟩ = some (.int .i64 wd) := by rw [Lib.cell_of_heap k4]; rfl
    have HI0 := Aside0.mk hI0
    have HB8 := Aside0.mk b8
    have HS8 := Aside0.mk s8
    have HN := Aside0.mk hN
    have hh2 : 1 ≤ h ∧ h ≤ 100 := ⟨by omega, by omega⟩
    have hw2 : 1 ≤ wd ∧ wd ≤ 100 := ⟨by omega, by omega⟩
    have HBL : Aside0 (Calls Try.prog 134 #[.int .i64 h, .int .i64 wd, .func (.func 201) #[] #[.pointer (some ⟨N + 1 + 1 + 1 + 1 + 1, 0, none⟩), .pointer (some ⟨N, 0, none⟩), .pointer (some ⟨N + 1 + 1 + 1, 0, none⟩)]] W8.drew fun e w' =>
      ∃ rws : List (Nat × List Int), e = .returned (.slice (some ⟨W8.drew.heap.size, 0, none⟩) h h) ∧ rws.map Prod.snd = (List.range h).map (fun r => (List.range wd).map fun c => ((numAt wd (cellOf rows wd) (r * wd + c) : Nat) : Int)) ∧ GridAt w' W8.drew.heap.size h rws ∧ (∀ x ∈ rws, W8.drew.heap.size < x.1) ∧ ScanI N gb h ch wd rows (h * wd) w' ∧ Below N W8.drew w') := ⟨by
      refine blank_any h wd hh2 hw2 201 #[.pointer (some ⟨N + 1 + 1 + 1 + 1 + 1, 0, none⟩), .pointer (some ⟨N, 0, none⟩), .pointer (some ⟨N + 1 + 1 + 1, 0, none⟩)] (fun n => ((numAt wd (cellOf rows wd) n : Nat) : Int)) N W8.drew (by show N ≤ W8.heap.size; omega) (ScanI N gb h ch wd rows) hI0 ?_ enter144 ?_
      · intro n W W' hI hB hL
        have hs8 : W8.drew.heap.size = N + 6 := HS8.out
        refine hI.leaves hs8 (by rw [← hN]; exact hgl) (fun _ _ _ _ => trivial) hL (GridIn.low (hb := W8.drew.heap.size) hI.2.1 (fun j h1 h2 => hL.2 j h2 (.inl h1)) ⟨w, HGI.out, by rw [hs8, hN]; omega, fun j hj => ?_⟩)
        have h1 := (b8.drew.trans hB).block j (by rw [← hN]; exact hj)
        exact h1
      · intro r c W hr hc hI hB
        have hr2 : r < rows.length := by rw [HH.out]; exact hr
        obtain ⟨cs2, hcs2, hcr2⟩ := hI.2.1
        have hrr : rows[r]? = some rows[r] := List.getElem?_eq_getElem hr2
        obtain ⟨rb, cr, e1, rs, e2, e3⟩ := hcr2 r rows[r] hrr
        have hlen : rows[r].length = wd := by
          have hs := HS.out
          unfold shapeB at hs
          simp only [Bool.and_eq_true, Bool.not_eq_true', List.any_eq_false] at hs
          have := hs.2 r (List.mem_range.2 hr2)
          rw [HWD.out] at this
          simp [hr2] at this
          omega
        have hcl : c < rows[r].length := by rw [hlen]; exact hc
        have hx := HX.out rows[r] (List.getElem_mem hr2) rows[r][c] (List.getElem_mem hcl)
        have hf : cellOf rows wd (r * wd + c) = rows[r][c] := by
          rw [cellOf_at hc hrr, List.getD_eq_getElem?_getD, List.getElem?_eq_getElem hcl]; rfl
        have hnn : r * wd + c ≤ 100 := by
          have h1 : r * wd ≤ 5 * 6 := Nat.mul_le_mul (by omega) (by omega)
          omega
        have hcl2 := clos_any N (N + 1 + 1 + 1 + 1 + 1) N (N + 1 + 1 + 1) (N + 1 + 1) (N + 1 + 1 + 1 + 1) gb rb h ch wd cr (scan wd (cellOf rows wd) (r * wd + c)) r c rows[r][c] W hI.1 hr hc (by omega) (by omega) hx (Nat.le_trans (scan_len_le _ _ _) hnn) (scan_boxIn _ _ _ hnn)
          (by rw [Lib.cell_of_heap hcs2, e1, hlen]) (by rw [Lib.cell_of_heap e2, e3 c _ (List.getElem?_eq_getElem hcl)])
        refine hcl2.mono ?_
        rintro e W' ⟨rfl, h1, h2, h3⟩
        have hcb : cellBox wd (r * wd + c) = ((r : Int), (c : Int), 1, 1) := by unfold cellBox; rw [(div_row hc).1, (div_row hc).2]
        refine ⟨by unfold numAt; rw [hf], ⟨?_, hI.2.1.kept h3, ?_⟩, h2, fun j cs3 t _ hj ht => ?_⟩
        · show Clos _ _ _ _ _ _ _ _ _ (stepX (scan wd (cellOf rows wd) (r * wd + c)) (cellBox wd (r * wd + c)) (cellOf rows wd (r * wd + c))) W'
          rw [hf, hcb]
          exact h1
        · rw [h3 _ _ _ hI.2.2 (by decide) (by decide)]; exact hI.2.2
        · rw [h3 j cs3 t hj (by rcases ht with rfl | rfl <;> decide) (by rcases ht with rfl | rfl <;> decide)]; exact hj⟩
    simp only [hN]
    clear hN
    go_region_held3 (fun w' => w'.cell? ⟨N + 1 + 1 + 1, 0, none⟩ = some (.pointer (some ⟨N + 1 + 1, 0, none⟩)) ∧ w'.cell? ⟨N, 0, none⟩ = some (.slice (some ⟨gb, 0, none⟩) h ch) ∧ w'.cell? ⟨N + 1, 0, none⟩ = some (.int .i64 wd)) (first
      | exact ⟨c5, c1, c4⟩
      | exact ⟨c5x, c1x, c4x⟩
      | (go_simp)) ((go_at_call 134; (with_reducible refine Calls.mono HBL.out ?_); rintro e w9 ⟨rws, rfl, r1, r2, r3, r4, r5⟩; have HR1 := Aside0.mk r1; have HR2 := Aside0.mk r2; have HR3 := Aside0.mk r3; have HR4 := Aside0.mk r4; have HR5 := Aside0.mk r5; have c5x : w9.cell? ⟨N + 1 + 1 + 1, 0, none⟩ = some (.pointer (some ⟨N + 1 + 1, 0, none⟩)) := (by rw [Lib.cell_of_heap HR4.out.1.n5]; rfl); have c1x : w9.cell? ⟨N, 0, none⟩ = some (.slice (some ⟨gb, 0, none⟩) h ch) := (by rw [Lib.cell_of_heap HR4.out.1.n1]; rfl); have c4x : w9.cell? ⟨N + 1, 0, none⟩ = some (.int .i64 wd) := (by rw [Lib.cell_of_heap HR4.out.2.2]; rfl); obtain ⟨rv9, hf9, hro9⟩ := HR4.out.1.rooms; have HF9 := Aside0.mk hf9; have HRO9 := Aside0.mk hro9; have cfx : w9.cell? ⟨N + 1 + 1, 0, none⟩ = some (.slice none 0 0) := (by rw [Lib.cell_of_heap HF9.out]; rfl); have zfx : w9.frozen? ⟨N + 1 + 1, 0, none⟩ = false := Lib.frozen_of_heap HF9.out 0; clear r1 r2 r3 r4 r5 hf9 hro9))
    have hlow : ∀ j o, j ≠ N + 1 + 1 → w9.heap[j]? = o → (w9.setCell ⟨N + 1 + 1, 0, none⟩ (.slice (some ⟨N + 6, 0, none⟩) h h)).heap[j]? = o := fun j o hj ho => by rw [Below.heap_setCell _ _ _ _ hj, ho]
    obtain ⟨rA, rcp, rfl⟩ := own_slice HRO9.out
    have kf10 : (w9.setCell ⟨N + 1 + 1, 0, none⟩ (.slice (some ⟨N + 6, 0, none⟩) h h)).heap[N + 1 + 1]? = some (Obj.cells #[.slice (some ⟨N + 6, 0, none⟩) h h, .slice rA (scan wd (cellOf rows wd) (h * wd)).2.length rcp] 68 (0, 0)) := by
      rw [blk_set HF9.out 0 _]; rfl
    have k510 := hlow _ _ (by omega) HR4.out.1.n5
    have hro10 : Rooms (w9.setCell ⟨N + 1 + 1, 0, none⟩ (.slice (some ⟨N + 6, 0, none⟩) h h)) N (.slice rA (scan wd (cellOf rows wd) (h * wd)).2.length rcp) (scan wd (cellOf rows wd) (h * wd)).2 := own_move HRO9.out (fun j hj => Below.heap_setCell _ _ _ _ (fun e => by
      obtain ⟨cs', hcs'⟩ := own_typed HRO9.out j hj
      rw [e, HF9.out] at hcs'
      injection hcs' with hcs'
      injection hcs' with _ hcs'
      exact absurd hcs' (by decide)))
    have hg10 : GridAt (w9.setCell ⟨N + 1 + 1, 0, none⟩ (.slice (some ⟨N + 6, 0, none⟩) h h)) (N + 6) h rws := by
      have h8 := HR2.out
      have hs := HS8.out
      rw [show W8.drew.heap.size = N + 6 from hs] at h8
      refine ⟨hlow _ _ (by omega) h8.1, fun x hx => hlow _ _ ?_ (h8.2 x hx)⟩
      have := HR3.out x hx
      rw [show W8.drew.heap.size = N + 6 from hs] at this
      omega
    have hb10 : Below N w (w9.setCell ⟨N + 1 + 1, 0, none⟩ (.slice (some ⟨N + 6, 0, none⟩) h h)) := ((HB8.out.drew).trans HR5.out).setCell (p := ⟨N + 1 + 1, 0, none⟩) (by show N ≤ N + 1 + 1; omega) _
    have HR1 := Aside0.mk HR1.out
    obtain ⟨bs, hbs⟩ : ∃ bs, (scan wd (cellOf rows wd) (h * wd)).2 = bs := ⟨_, rfl⟩
    have hsc : (scanOf rows).2 = bs := by unfold scanOf; rw [HWD.out, HH.out, hbs]
    have hbin : ∀ b ∈ bs, BoxIn b := by
      rw [← hbs]
      refine scan_boxIn wd _ _ ?_
      have : h * wd ≤ 6 * 6 := Nat.mul_le_mul (by omega) (by omega)
      omega
    have hm1 : 1 ≤ bs.length := by
      rw [← hbs, ← scan_len]
      refine List.length_pos_of_mem ((scan_mem (w := wd) (f := cellOf rows wd) (h * wd) (cellOf rows wd 0)).2 ⟨0, Nat.mul_pos (by omega) (by omega), rfl⟩)
    rw [hbs] at kf10 hro10
    obtain ⟨W10, hW10⟩ : ∃ W10, W10 = w9.setCell ⟨N + 1 + 1, 0, none⟩ (.slice (some ⟨N + 6, 0, none⟩) h h) := ⟨_, rfl⟩
    rw [← hW10] at kf10 k510 hro10 hg10 hb10 ⊢
    clear hW10 hlow HF9 HRO9 cfx zfx c5x c1x c4x HR2 HR3 HR4 HR5 c5 c1 c4 k1 k4 kf k5 km k6 b8 hI0 HI0 s8 HBL HB8
    have c5 : W10.cell? ⟨N + 1 + 1 + 1, 0, none⟩ = some (.pointer (some ⟨N + 1 + 1, 0, none⟩)) := by rw [Lib.cell_of_heap k510]; rfl
    have cf0 : W10.cell? ⟨N + 1 + 1, 0, none⟩ = some (.slice (some ⟨N + 6, 0, none⟩) h h) := by rw [Lib.cell_of_heap kf10]; rfl
    have cf1 : W10.cell? ⟨N + 1 + 1, 1, none⟩ = some (.slice rA bs.length rcp) := by rw [Lib.cell_of_heap kf10]; rfl
    have HKF := Aside0.mk kf10
    have HK5 := Aside0.mk k510
    have HRO := Aside0.mk hro10
    have HG := Aside0.mk hg10
    have HB := Aside0.mk hb10
    have HSC := Aside0.mk hsc
    have HBIN := Aside0.mk hbin
    clear kf10 k510 hro10 hg10 hb10 hsc hbin hbs
    by_cases hm : 9 < bs.length
    · go_wp2_with fail
      go_ret2
      exact ⟨by rw [HN.out]; exact HB.out, .inr ⟨by rw [HSC.out, decide_eq_false (by omega), Bool.and_false], rfl⟩⟩
    · obtain ⟨rg, rc2, hE, hlc, hbr, hrl, ⟨rcs, hrg⟩, hcell⟩ := HRO.out.form hm1
      injection hE with hE1 hE2 hE3
      subst hE1 hE3
      have hm0 : decide (9 < (bs.length : Int)) = false := decide_eq_false (by omega)
      have HCELL := Aside0.mk hcell
      have HRL := Aside0.mk hrl
      clear hcell hrg hrl
      go_wp2_with fail
      go_loopw [7, 61] (fun s i wr => ∃ k : Nat, i = .int .i64 k ∧ k ≤ bs.length ∧ s = .int .i64 ((bs.take k).map areaB).sum ∧ Aside0 (Below W10.heap.size W10 wr)) (fun _ i _ => bs.length - (intOf i).toNat)
      case atStart => exact ⟨0, rfl, Nat.zero_le _, rfl, ⟨Below.refl _ _⟩⟩
      case round =>
        obtain ⟨k, rfl, hk, rfl, HW⟩ := hrel
        have hk0 : (0 : Int) ≤ (k : Int) := by omega
        by_cases hlt : (k : Int) < (bs.length : Int)
        · have hkl : k < bs.length := by omega
          have hcell := HCELL.out k hkl
          have hbk' := HBIN.out _ (List.getElem_mem hkl)
          have hst := sum_take bs k hkl
          have hsb := sum_bound (bs.take k) (fun b hb => HBIN.out b (List.mem_of_mem_take hb))
          rw [List.length_take, Nat.min_eq_left hk] at hsb
          obtain ⟨⟨d0, d1, d2, d3⟩, hbk⟩ : ∃ b, bs[k] = b := ⟨_, rfl⟩
          rw [hbk] at hcell hbk' hst
          obtain ⟨e0, e1, e2, e3⟩ := hcell
          have f0 := (HW.out.cell (p := ⟨rg, k * 4, none⟩) HRL.out).trans e0
          have f1 := (HW.out.cell (p := ⟨rg, k * 4 + 1, none⟩) HRL.out).trans e1
          have f2 := (HW.out.cell (p := ⟨rg, k * 4 + 2, none⟩) HRL.out).trans e2
          have f3 := (HW.out.cell (p := ⟨rg, k * 4 + 3, none⟩) HRL.out).trans e3
          obtain ⟨S, hS⟩ : ∃ S, ((bs.take k).map areaB).sum = S := ⟨_, rfl⟩
          have hab := area_bound hbk'
          have HAR : Aside0 (∀ wx, Calls Try.prog 202 #[.agg #[.int .i64 d0, .int .i64 d1, .int .i64 d2, .int .i64 d3]] wx fun e w' => e = .returned (.int .i64 (areaB (d0, d1, d2, d3))) ∧ Below wx.heap.size wx w') := ⟨fun wx => area_any (d0, d1, d2, d3) hbk' wx⟩
          obtain ⟨ar, har⟩ : ∃ ar, areaB (d0, d1, d2, d3) = ar := ⟨_, rfl⟩
          rw [har] at hab HAR hst
          rw [hS] at hsb hst ⊢
          have hs0 := hsb.1
          have hs1 := hsb.2
          have ha0 := hab.1
          have ha1 := hab.2
          have HST := Aside0.mk hst
          clear hst hS hsb hab hbk' e0 e1 e2 e3 hbk har
          go_wp2_with fail
          refine (HAR.out _).mono ?_
          rintro e w3 ⟨rfl, hb3⟩
          have HB3 := Aside0.mk hb3
          clear hb3
          go_wp2_with fail
          go_roundw
          case rel => exact ⟨k + 1, by go_num, by omega, by rw [HST.out], ⟨HW.out.trans ((below_alloc (Below.refl _ _) _).trans (HB3.out.mono (by simp)) |>.mono HW.out.size)⟩⟩
          case measure => simp [intOf]; omega
        · have hkb : k = bs.length := by omega
          have hsum : ((bs.take k).map areaB).sum = (bs.map areaB).sum := by rw [hkb, List.take_length]
          rw [hsum]
          obtain ⟨S, hS⟩ : ∃ S, (bs.map areaB).sum = S := ⟨_, rfl⟩
          have hsb := sum_bound bs HBIN.out
          rw [hS] at hsb ⊢
          have hs0 := hsb.1
          have hs1 : S ≤ 9000000 := by have := hsb.2; omega
          have hlen : rws.length = h := by
            have := congrArg List.length HR1.out
            simpa using this
          have hrow : ∃ gr, W10.cell? ⟨N + 6, 0, none⟩ = some (.slice (some ⟨gr, 0, none⟩) wd wd) := by
            match rws, hlen, HR1.out, HG.out with
            | [], hl0, _, _ => exact absurd hl0 (by simp; omega)
            | x :: t, hl0, hr1, hg1 =>
              refine ⟨x.1, ?_⟩
              have hx2 : x.2.length = wd := by
                have h0 := congrArg (fun l => (l.getD 0 []).length) hr1
                have hr0 : List.range h = 0 :: (List.range (h - 1)).map (· + 1) := by
                  rw [show h = (h - 1) + 1 by omega, List.range_succ_eq_map]; rfl
                rw [hr0] at h0
                simpa using h0
              rw [hg1.cell 0 (rowV x) rfl]
              unfold rowV
              rw [hx2]
          obtain ⟨gr, hrow⟩ := hrow
          have c5w : wr.cell? ⟨N + 1 + 1 + 1, 0, none⟩ = some (.pointer (some ⟨N + 1 + 1, 0, none⟩)) := (HW.out.cell (p := ⟨N + 1 + 1 + 1, 0, none⟩) (Array.getElem?_eq_some_iff.1 HK5.out).1).trans c5
          have cfw : wr.cell? ⟨N + 1 + 1, 0, none⟩ = some (.slice (some ⟨N + 6, 0, none⟩) h h) := (HW.out.cell (p := ⟨N + 1 + 1, 0, none⟩) (Array.getElem?_eq_some_iff.1 HKF.out).1).trans cf0
          have crw : wr.cell? ⟨N + 6, 0, none⟩ = some (.slice (some ⟨gr, 0, none⟩) wd wd) := (HW.out.cell (p := ⟨N + 6, 0, none⟩) (Array.getElem?_eq_some_iff.1 HG.out.1).1).trans hrow
          have hpr : (h : Int) * (wd : Int) = ((h * wd : Nat) : Int) := by push_cast; rfl
          have hpl : h * wd ≤ 36 := Nat.mul_le_mul (show h ≤ 6 by omega) (show wd ≤ 6 by omega)
          have hp0 : 0 ≤ (h : Int) * (wd : Int) := by rw [hpr]; omega
          have hp1 : (h : Int) * (wd : Int) ≤ 36 := by rw [hpr]; omega
          have HHI : Aside0 (∀ n, Calls Try.prog 124 #[.pointer (some ⟨N + 1 + 1, 0, none⟩)] (wr.drewN n) fun e w' => e = .returned (.int .i64 h) ∧ w' = wr.drewN n) := ⟨fun n => high_any _ _ h h (wr.drewN n) cfw⟩
          have HWI : Aside0 (∀ n, Calls Try.prog 125 #[.pointer (some ⟨N + 1 + 1, 0, none⟩)] (wr.drewN n) fun e w' => e = .returned (.int .i64 wd) ∧ w' = wr.drewN n) := ⟨fun n => wide_any _ (N + 6) h h (by omega) _ wd wd (wr.drewN n) cfw crw⟩
          have HSS := Aside0.mk hS
          have HPR := Aside0.mk hpr
          have HKB := Aside0.mk hkb
          clear hkb hsum hS hsb hrow hpr hpl
          go_wp2_with fail
          go_quiet ((first | (go_at_call 124; exact Calls.quiet_of_same (HHI.out _)) | (go_at_call 125; exact Calls.quiet_of_same (HWI.out _))))
          go_wp2_with fail
          go_ret2
          have hfull : fullB rows = (S == (h : Int) * (wd : Int)) := by
            unfold fullB
            rw [HSC.out, HSS.out, HH.out, HWD.out, Bool.eq_iff_iff]
            simp
          have hW' : Below W10.heap.size W10 (wr.drewN nq) := pw_below_drewN HW.out nq
          have hN10 : N ≤ W10.heap.size := HB.out.size |> fun h => by have := HN.out; omega
          show Settled w (wr.drewN nq) rows (.returned (.tuple #[.pointer (some ⟨N + 1 + 1, 0, none⟩), .bool (S == (h : Int) * (wd : Int))]))
          refine ⟨by rw [HN.out]; exact HB.out.trans (hW'.mono hN10), .inl ⟨by rw [HS.out, HSC.out, decide_eq_true (by omega)]; rfl, N + 1 + 1, by rw [hfull], N + 6, h, .slice (some ⟨rg, 0, none⟩) bs.length rcp, rws, ?_, ?_, ?_, hlen, ?_, by rw [HN.out]; omega⟩⟩
          · rw [hW'.block _ (Array.getElem?_eq_some_iff.1 HKF.out).1]; exact HKF.out
          · exact ⟨by rw [hW'.block _ (Array.getElem?_eq_some_iff.1 HG.out.1).1]; exact HG.out.1, fun x hx => by unfold IntRow; rw [hW'.block _ (Array.getElem?_eq_some_iff.1 (HG.out.2 x hx)).1]; exact HG.out.2 x hx⟩
          · rw [HR1.out]; unfold numsOf; rw [HWD.out, HH.out]
          · rw [HSC.out, HN.out]; exact own_move HRO.out (fun j hj => hW'.block j (HRO.out.lt j hj).2)
end Go.Proofs.Ytbpppchkgjcahaa
