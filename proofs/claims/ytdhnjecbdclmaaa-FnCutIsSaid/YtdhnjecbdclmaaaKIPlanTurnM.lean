/- Texts of this claim's, joined by a program: IPlanTurn, IListOwn, ICutStuckS, ICutStuck, IStuckBy, IWaysP. -/
import Derived.Test.YtdhnjecbdclmaaaKITurn
import Derived.Test.YtdhnjecbdclmaaaKISpecTextM
import Derived.Test.YtdhnjecbdclmaaaKIFloorRM
import Derived.Test.YtdhnjecbdclmaaaKIFlat
section
namespace Go.Proofs.Ytdhnjecbdclmaaa
open Go.RowKit Go.Shelf Go.Proofs.YtdhnjecbdclmaaaW.PrintWords Go.Proofs.YtdhnjecbdclmaaaW.PrintMore
set_option linter.unusedVariables false
set_option linter.unusedSimpArgs false
theorem GridAt.in_ {W : World} {g n : Nat} {rows : List (Nat × List Int)} (h : GridAt W g n rows) : GridIn W g (rows.map Prod.snd) := by
  refine ⟨_, h.1, fun r row hr => ?_⟩
  rw [List.getElem?_map] at hr
  obtain ⟨⟨a, xs⟩, h1, rfl⟩ := Option.map_eq_some_iff.1 hr
  obtain ⟨hl, hg⟩ := List.getElem?_eq_some_iff.1 h1
  refine ⟨a, xs.length, ?_, _, h.2 _ (List.mem_of_getElem? h1), fun c x hx => ?_⟩
  · rw [List.getElem?_toArray, List.getElem?_append_left (by rw [List.length_map]; exact hl), List.getElem?_map, h1]
    rfl
  · rw [List.getElem?_toArray, List.getElem?_map]
    show Option.map _ xs[c]? = _
    rw [hx]; rfl
def planV (rows : List (List Int)) : List ByteArray × Bool := if (shapeB rows && decide ((scanOf rows).2.length ≤ 9)) && fullB rows then ((numsOf rows).map rowText, true) else ([], false)
theorem nums_smallR {rows : List (List Int)} (hs : shapeB rows = true) : (numsOf rows).length ≤ 6 ∧ ∀ row ∈ numsOf rows, row.length ≤ 6 ∧ ∀ k ∈ row, (0 : Int) ≤ k ∧ k ≤ 100 := by
  have h6 : rows.length ≤ 6 ∧ (rows.getD 0 []).length ≤ 6 := by
    unfold shapeB at hs
    simp only [Bool.and_eq_true, decide_eq_true_eq] at hs
    exact ⟨hs.1.1.1.2, hs.1.2⟩
  unfold numsOf
  refine ⟨by rw [List.length_map, List.length_range]; exact h6.1, fun row hrow => ?_⟩
  obtain ⟨r, hr, rfl⟩ := List.mem_map.1 hrow
  have hr := List.mem_range.1 hr
  refine ⟨by rw [List.length_map, List.length_range]; exact h6.2, fun k hk => ?_⟩
  obtain ⟨c, hc, rfl⟩ := List.mem_map.1 hk
  have hc := List.mem_range.1 hc
  refine ⟨Int.natCast_nonneg _, ?_⟩
  have h1 : numAt (rows.getD 0 []).length (cellOf rows (rows.getD 0 []).length) (r * (rows.getD 0 []).length + c) ≤ r * (rows.getD 0 []).length + c := by
    unfold numAt
    exact Nat.le_trans List.idxOf_le_length (scan_len_le _ _ _)
  have h2 : r * (rows.getD 0 []).length ≤ 5 * 6 := Nat.mul_le_mul (by omega) h6.2
  omega
def PlanE (rows : List (List Int)) (w w' : World) (e : Ending) : Prop := (∃ A c, e = .returned (.tuple #[.slice A (planV rows).1.length c, .bool (planV rows).2]) ∧ (planV rows).1.length ≤ c ∧ Kd.C Kd.string w' A (planV rows).1.length (planV rows).1) ∧ Below w.heap.size w w'
theorem nil_C (W : World) : Kd.C Kd.string W none 0 [] := Kd.C_of_reads (d := ByteArray.empty) (enc := Value.string) (h1 := fun _ => rfl) ⟨rfl, Nat.zero_le _, fun h => absurd h (Nat.lt_irrefl 0)⟩
set_option maxRecDepth 100000 in
set_option maxHeartbeats 4000000 in
theorem plan_any (gb n : Nat) (rows : List (Nat × List Int)) (hl : rows.length = n) (hn : n ≤ 100) (w : World) (hg : GridAt w gb n rows) (hx : ∀ row ∈ rows.map Prod.snd, ∀ x ∈ row, (0 : Int) ≤ x ∧ x ≤ 1000) (hrl : ∀ row ∈ rows.map Prod.snd, row.length ≤ 100) :
    Calls Try.prog 181 #[.slice (some ⟨gb, 0, none⟩) n n] w fun e w' => PlanE (rows.map Prod.snd) w w' e := by
  have HST := settled_any gb n (rows.map Prod.snd) (by rw [List.length_map]; omega) w hg.in_ hx (fun row h => by have := hrl row h; omega)
  rw [List.length_map, hl] at HST
  obtain ⟨R, hR⟩ : ∃ R, rows.map Prod.snd = R := ⟨_, rfl⟩
  rw [hR] at HST ⊢
  clear hg hx hrl hR
  go_enter Try.func181, Try.ntmps181
  go_wp2_with fail
  refine HST.mono ?_
  rintro e w1 ⟨hb1, ⟨hsh, fb, rfl, hfl⟩ | ⟨hsh, rfl⟩⟩
  · have HB := Aside0.mk hb1
    cases hfu : fullB R with
    | false =>
      have HV : Aside0 (planV R = ([], false)) := ⟨by unfold planV; rw [hfu, Bool.and_false]; rfl⟩
      clear hsh hfl hb1 hfu
      go_wp2_with fail
      go_ret2
      exact ⟨⟨none, 0, by rw [HV.out]; rfl, by rw [HV.out]; exact Nat.le_refl _, by rw [HV.out]; exact nil_C _⟩, HB.out⟩
    | true =>
      have HV : Aside0 (planV R = ((numsOf R).map rowText, true)) := ⟨by unfold planV; rw [hsh, hfu]; rfl⟩
      have hshape : shapeB R = true := by simp only [Bool.and_eq_true] at hsh; exact hsh.1
      obtain ⟨hn1, hn2⟩ := nums_smallR hshape
      obtain ⟨g, hh, rv, rows', k1, k2, k3, k4, k5, k6⟩ := hfl
      have hrows : ∀ x ∈ rows', x.2.length ≤ 100 ∧ ∀ k ∈ x.2, (0 : Int) ≤ k ∧ k ≤ 100 := fun x hx => by
        have := hn2 x.2 (by rw [← k3]; exact List.mem_map_of_mem hx)
        exact ⟨by omega, this.2⟩
      have hh6 : hh ≤ 6 := by
        rw [← k4]
        have := congrArg List.length k3
        rw [List.length_map] at this
        omega
      have HTX := text_any fb g hh rv rows' w1 k1 k2 k4 (by omega) hrows
      have HSL : Aside0 (((rows'.map Prod.snd).map rowText).length = hh) := ⟨by rw [List.length_map, List.length_map, k4]⟩
      have HK3 := Aside0.mk k3
      clear k1 k2 k3 k4 k5 k6 hrows hn1 hn2 hshape hsh hfu hb1
      go_wp2_with fail
      refine HTX.mono ?_
      rintro e w2 ⟨rfl, hst, hb2⟩
      have HB2 := Aside0.mk hb2
      have HCS := Aside0.mk (StrsAt.reads hst HSL.out (by omega))
      clear hst hb2
      go_wp2_with fail
      go_ret2
      have hlen := HSL.out
      rw [HK3.out] at hlen
      have hC := HCS.out
      rw [HK3.out] at hC
      refine ⟨⟨some ⟨w1.heap.size, 0, none⟩, hh, ?_, ?_, ?_⟩, HB.out.trans (HB2.out.mono HB.out.size)⟩
      · rw [HV.out]
        show Ending.returned _ = Ending.returned (.tuple #[.slice _ ((numsOf R).map rowText).length _, .bool true])
        rw [hlen]; rfl
      · rw [HV.out]
        show ((numsOf R).map rowText).length ≤ hh
        omega
      · rw [HV.out]; exact hC
  · have HB := Aside0.mk hb1
    have HV : Aside0 (planV R = ([], false)) := ⟨by unfold planV; rw [hsh, Bool.false_and]; rfl⟩
    clear hsh hb1
    go_wp2_with fail
    go_ret2
    exact ⟨⟨none, 0, by rw [HV.out]; rfl, by rw [HV.out]; exact Nat.le_refl _, by rw [HV.out]; exact nil_C _⟩, HB.out⟩
def gridV (hi wd : Nat) (val : Nat → Nat → Int) : List (List Int) := (List.range hi).map fun r => (List.range wd).map fun c => val r c
def RemadeE (p : List ByteArray) (R : List (List Int)) (w w' : World) (e : Ending) : Prop := (∃ A c V, V = (if planG p then planV R else ([], false)) ∧ e = .returned (.tuple #[.slice A V.1.length c, .bool V.2]) ∧ V.1.length ≤ c ∧ Kd.C Kd.string w' A V.1.length V.1) ∧ Below w.heap.size w w'
set_option maxRecDepth 100000 in
set_option maxHeartbeats 8000000 in
theorem remade_any (fn : Nat) (hent : ∀ args W, (callFunc fn args).run Try.prog W = .ok (.enter fn args) W) (A : Option Addr) (cap : Nat) (p : List ByteArray) (hp : SmallP p) (hi wd : Nat) (val : Nat → Nat → Int) (hhi : planG p = true → hi ≤ 100 ∧ wd ≤ 100 ∧ ∀ r c, r < hi → c < wd → 0 ≤ val r c ∧ val r c ≤ 1000)
    (how : planG p = true → ∀ fb W, FloorR W fb p.length (wdP p) (clP p) (boxesP p) → Calls Try.prog fn #[.pointer (some ⟨fb, 0, none⟩)] W fun e w' => Grown W w' hi wd val e) (w : World) (hr0 : Kd.C Kd.string w A p.length p) (hc0 : p.length ≤ cap) :
    Calls Try.prog 106 #[.slice A p.length cap, .func (.func fn) #[] #[]] w fun e w' => RemadeE p (gridV hi wd val) w w' e := by
  have HFL := floorOf_any A cap p hp.1 hp.2 w hr0 hc0
  have HOW := Aside0.mk how
  have HHI := Aside0.mk hhi
  clear hr0 how hhi
  go_enter Try.func106, Try.ntmps106
  go_wp2_with fail
  refine HFL.mono ?_
  rintro e w1 ⟨hb1, ⟨hpl, fb, base, rfl, hbase, hfl⟩ | ⟨hpl, o, rfl⟩⟩
  · have HB1 := Aside0.mk hb1
    have HC := Aside0.mk (HOW.out hpl fb w1 hfl.reads)
    have HPL := Aside0.mk hpl
    obtain ⟨hv1, hv2, hv3⟩ := HHI.out hpl
    have HV3 := Aside0.mk hv3
    clear hb1 hpl hfl hv3
    go_wp2_with fail
    refine HC.out.mono ?_
    rintro e w2 ⟨gb, rows, rfl, g1, g2, g3⟩
    have HB2 := Aside0.mk (HB1.out.trans (g3.mono HB1.out.size))
    have hlen : rows.length = hi := by have := congrArg List.length g1; simpa using this
    have hcell : ∀ row ∈ rows.map Prod.snd, row.length ≤ 100 ∧ ∀ x ∈ row, (0 : Int) ≤ x ∧ x ≤ 1000 := fun row hrow => by
      rw [g1] at hrow
      obtain ⟨r, hr, rfl⟩ := List.mem_map.1 hrow
      refine ⟨by rw [List.length_map, List.length_range]; omega, fun x hx => ?_⟩
      obtain ⟨c, hc, rfl⟩ := List.mem_map.1 hx
      exact HV3.out r c (List.mem_range.1 hr) (List.mem_range.1 hc)
    have HPN := plan_any gb hi rows hlen hv1 w2 g2 (fun row h => (hcell row h).2) (fun row h => (hcell row h).1)
    rw [g1] at HPN
    clear g1 g2 g3 hcell hlen
    go_wp2_with fail
    refine HPN.mono ?_
    rintro e w3 ⟨⟨A3, c3, rfl, h1, h2⟩, hb3⟩
    have HB3 := Aside0.mk (HB2.out.trans (hb3.mono HB2.out.size))
    have HC3 := Aside0.mk (And.intro h1 h2)
    clear h1 h2 hb3
    go_wp2_with fail
    go_ret2
    exact ⟨⟨A3, c3, planV (gridV hi wd val), by rw [if_pos HPL.out], rfl, HC3.out.1, HC3.out.2⟩, HB3.out⟩
  · have HB1 := Aside0.mk hb1
    have HPL := Aside0.mk hpl
    clear hb1 hpl
    go_wp2_with fail
    go_ret2
    exact ⟨⟨none, 0, ([], false), by rw [HPL.out]; rfl, rfl, Nat.le_refl _, nil_C _⟩, HB1.out⟩
theorem enter_tu (args : Array Value) (W : World) : (callFunc 107 args).run Try.prog W = .ok (.enter 107 args) W := by kernel_rfl
theorem enter_fl (args : Array Value) (W : World) : (callFunc 108 args).run Try.prog W = .ok (.enter 108 args) W := by kernel_rfl
def turnR (p : List ByteArray) : List (List Int) := gridV (wdP p) p.length fun r c => clP p (p.length - 1 - c) r
def flipR (p : List ByteArray) : List (List Int) := gridV p.length (wdP p) fun r c => clP p r (wdP p - 1 - c)
theorem clP_small {p : List ByteArray} (h : planG p = true) {i j : Nat} (hi : i < p.length) (hj : j < wdP p) : 0 ≤ clP p i j ∧ clP p i j ≤ 1000 := by
  obtain ⟨k, hk, e⟩ := (planFlat h).num i j hi hj
  have := (planFlat h).few
  omega
set_option maxHeartbeats 4000000 in
theorem planTurn_any (A : Option Addr) (cap : Nat) (p : List ByteArray) (hp : SmallP p) (w : World) (hr0 : Kd.C Kd.string w A p.length p) (hc0 : p.length ≤ cap) :
    Calls Try.prog 47 #[.slice A p.length cap] w fun e w' => RemadeE p (turnR p) w w' e := by
  have HR := remade_any 107 enter_tu A cap p hp (wdP p) p.length (fun r c => clP p (p.length - 1 - c) r)
    (fun h => ⟨by have := (planFlat h).wide; omega, by have := (planFlat h).high; omega, fun r c hr hc => clP_small h (by omega) hr⟩)
    (fun h fb W hF => turned_any fb p.length (wdP p) (clP p) (boxesP p) (planFlat h).high (planFlat h).wide W hF) w hr0 hc0
  clear hr0
  go_enter Try.func47, Try.ntmps47
  go_wp2_with fail
  refine HR.mono ?_
  rintro e w1 ⟨⟨A1, c1, ⟨V, b⟩, hv, rfl, h1, h2⟩, hb⟩
  have HC := Aside0.mk (And.intro hv (And.intro h1 (And.intro h2 hb)))
  clear hv h1 h2 hb
  dsimp only
  go_wp2_with fail
  go_ret2
  exact ⟨⟨A1, c1, (V, b), HC.out.1, rfl, HC.out.2.1, HC.out.2.2.1⟩, HC.out.2.2.2⟩
set_option maxHeartbeats 4000000 in
theorem planFlip_any (A : Option Addr) (cap : Nat) (p : List ByteArray) (hp : SmallP p) (w : World) (hr0 : Kd.C Kd.string w A p.length p) (hc0 : p.length ≤ cap) :
    Calls Try.prog 50 #[.slice A p.length cap] w fun e w' => RemadeE p (flipR p) w w' e := by
  have HR := remade_any 108 enter_fl A cap p hp p.length (wdP p) (fun r c => clP p r (wdP p - 1 - c))
    (fun h => ⟨by have := (planFlat h).high; omega, by have := (planFlat h).wide; omega, fun r c hr hc => clP_small h hr (by omega)⟩)
    (fun h fb W hF => flipped_any fb p.length (wdP p) (clP p) (boxesP p) (planFlat h).high (planFlat h).wide W hF) w hr0 hc0
  clear hr0
  go_enter Try.func50, Try.ntmps50
  go_wp2_with fail
  refine HR.mono ?_
  rintro e w1 ⟨⟨A1, c1, ⟨V, b⟩, hv, rfl, h1, h2⟩, hb⟩
  have HC := Aside0.mk (And.intro hv (And.intro h1 (And.intro h2 hb)))
  clear hv h1 h2 hb
  dsimp only
  go_wp2_with fail
  go_ret2
  exact ⟨⟨A1, c1, (V, b), HC.out.1, rfl, HC.out.2.1, HC.out.2.2.1⟩, HC.out.2.2.2⟩
end Go.Proofs.Ytdhnjecbdclmaaa
end
section
namespace Go.Proofs.Ytdhnjecbdclmaaa
open Go.RowKit Go.Shelf Go.Proofs.YtdhnjecbdclmaaaW.PrintWords Go.Proofs.YtdhnjecbdclmaaaW.PrintMore
set_option linter.unusedVariables false
end Go.Proofs.Ytdhnjecbdclmaaa
end
section
namespace Go.Proofs.Ytdhnjecbdclmaaa
open Go.RowKit Go.Shelf Go.Proofs.YtdhnjecbdclmaaaW.PrintWords Go.Proofs.YtdhnjecbdclmaaaW.PrintMore
set_option linter.unusedVariables false
set_option linter.unusedSimpArgs false
end Go.Proofs.Ytdhnjecbdclmaaa
end
section
namespace Go.Proofs.Ytdhnjecbdclmaaa
open Go.RowKit Go.Shelf Go.Proofs.YtdhnjecbdclmaaaW.PrintWords Go.Proofs.YtdhnjecbdclmaaaW.PrintMore
set_option linter.unusedVariables false
set_option linter.unusedSimpArgs false
end Go.Proofs.Ytdhnjecbdclmaaa
end
section
namespace Go.Proofs.Ytdhnjecbdclmaaa
open Go.RowKit Go.Shelf Go.Proofs.YtdhnjecbdclmaaaW.PrintWords Go.Proofs.YtdhnjecbdclmaaaW.PrintMore
set_option linter.unusedVariables false
set_option linter.unusedSimpArgs false
def BoxFl (h wd : Nat) (B : Box) : Prop := ∃ r c ph pw : Nat, B = natB r c ph pw ∧ 1 ≤ ph ∧ 1 ≤ pw ∧ r + ph ≤ h ∧ c + pw ≤ wd
theorem BoxFl.in_ {h wd : Nat} {A : Box} (ha : BoxFl h wd A) (hh : h ≤ 6) (hw : wd ≤ 6) : BoxIn A ∧ 1 ≤ areaB A ∧ areaB A ≤ 36 := by
  obtain ⟨a1, a2, a3, a4, rfl, a5, a6, a7, a8⟩ := ha
  refine ⟨?_, ?_⟩
  · unfold BoxIn natB
    simp only
    omega
  · show 1 ≤ ((a3 : Int) * (a4 : Int)) ∧ ((a3 : Int) * (a4 : Int)) ≤ 36
    have h1 : a3 * a4 ≤ 6 * 6 := Nat.mul_le_mul (by omega) (by omega)
    have h2 : 1 * 1 ≤ a3 * a4 := Nat.mul_le_mul a5 a6
    rw [← Int.natCast_mul]
    omega
end Go.Proofs.Ytdhnjecbdclmaaa
end
section
namespace Go.Proofs.Ytdhnjecbdclmaaa
open Go.RowKit Go.Shelf Go.Proofs.YtdhnjecbdclmaaaW.PrintWords Go.Proofs.YtdhnjecbdclmaaaW.PrintMore
set_option linter.unusedVariables false
def roomsN (boxes : List Box) (r c ph pw : Nat) : Nat := (listL boxes (natB r c ph pw) boxes.length).length
theorem rooms_pos {cl : Nat → Nat → Int} {boxes : List Box} {h wd r c ph pw : Nat} (f : Flat cl boxes h wd) (hw : Whole cl h wd r c ph pw) : 1 ≤ roomsN boxes r c ph pw := by
  have hs := hw.some
  have := (listL_iff f hw (cl r c)).2 ⟨r, c, ⟨⟨by omega, by omega⟩, by omega, by omega⟩, rfl⟩
  exact List.length_pos_of_mem this
theorem listL_split {boxes : List Box} {b b1 b2 : Box} (hs : ∀ k (hk : k < boxes.length), (bothB b boxes[k] = b ↔ bothB b1 boxes[k] = b1 ∨ bothB b2 boxes[k] = b2) ∧ ¬ (bothB b1 boxes[k] = b1 ∧ bothB b2 boxes[k] = b2)) :
    ∀ n, n ≤ boxes.length → (listL boxes b n).length = (listL boxes b1 n).length + (listL boxes b2 n).length := by
  intro n
  induction n with
  | zero => intro _; rfl
  | succ n ih =>
    intro hn
    have ih := ih (by omega)
    obtain ⟨e1, e2⟩ := hs n (by omega)
    unfold listL
    rw [List.length_append, List.length_append, List.length_append, List.getD_eq_getElem?_getD, List.getElem?_eq_getElem (by omega), Option.getD_some]
    by_cases h1 : bothB b1 boxes[n] = b1
    · by_cases h2 : bothB b2 boxes[n] = b2
      · exact absurd ⟨h1, h2⟩ e2
      · rw [if_pos (e1.2 (.inl h1)), if_pos h1, if_neg h2]; simp; omega
    · by_cases h2 : bothB b2 boxes[n] = b2
      · rw [if_pos (e1.2 (.inr h2)), if_neg h1, if_pos h2]; simp; omega
      · rw [if_neg (fun h => (e1.1 h).elim h1 h2), if_neg h1, if_neg h2]; simp; omega
theorem rooms_split {cl : Nat → Nat → Int} {boxes : List Box} {h wd r c ph pw : Nat} (f : Flat cl boxes h wd) (hw : Whole cl h wd r c ph pw) {x : Bool × Nat} (hx : x ∈ cutsL cl r c ph pw) :
    roomsN boxes r c ph pw = roomsN boxes (oneR r c ph pw x).1 (oneR r c ph pw x).2.1 (oneR r c ph pw x).2.2.1 (oneR r c ph pw x).2.2.2 + roomsN boxes (twoR r c ph pw x).1 (twoR r c ph pw x).2.1 (twoR r c ph pw x).2.2.1 (twoR r c ph pw x).2.2.2 := by
  obtain ⟨w1, w2⟩ := whole_parts f hw hx
  have hin := cutsL_in hx
  refine listL_split (fun k hk => ?_) _ (Nat.le_refl _)
  have q0 := room_within f hw k hk
  have q1 := room_within f w1 k hk
  have q2 := room_within f w2 k hk
  rw [q0, q1, q2]
  obtain ⟨b, l⟩ := x
  cases b with
  | false =>
    simp only [Bool.false_eq_true, if_false] at hin
    simp only [oneR, twoR, Bool.false_eq_true, if_false]
    constructor
    · constructor
      · rintro ⟨i, j, ⟨a1, a2, a3⟩, hc⟩
        by_cases hj : j < l
        · exact .inl ⟨i, j, ⟨a1, a2, by omega⟩, hc⟩
        · exact .inr ⟨i, j, ⟨a1, by omega, by omega⟩, hc⟩
      · rintro (⟨i, j, ⟨a1, a2, a3⟩, hc⟩ | ⟨i, j, ⟨a1, a2, a3⟩, hc⟩)
        · exact ⟨i, j, ⟨a1, a2, by omega⟩, hc⟩
        · exact ⟨i, j, ⟨a1, by omega, by omega⟩, hc⟩
    · rintro ⟨⟨i, j, ⟨a1, a2, a3⟩, hc⟩, ⟨i', j', ⟨b1, b2, b3⟩, hc'⟩⟩
      have := side_up f hw ⟨hin.1, hin.2.1⟩ hin.2.2 (i := i) (j := j) (i' := i') (j' := j') ⟨a1, a2, by omega⟩ ⟨b1, by omega, by omega⟩ (by rw [hc, hc'])
      omega
  | true =>
    simp only [if_true] at hin
    simp only [oneR, twoR, if_true]
    constructor
    · constructor
      · rintro ⟨i, j, ⟨⟨a1, a2⟩, a3⟩, hc⟩
        by_cases hj : i < l
        · exact .inl ⟨i, j, ⟨⟨a1, by omega⟩, a3⟩, hc⟩
        · exact .inr ⟨i, j, ⟨⟨by omega, by omega⟩, a3⟩, hc⟩
      · rintro (⟨i, j, ⟨⟨a1, a2⟩, a3⟩, hc⟩ | ⟨i, j, ⟨⟨a1, a2⟩, a3⟩, hc⟩)
        · exact ⟨i, j, ⟨⟨a1, by omega⟩, a3⟩, hc⟩
        · exact ⟨i, j, ⟨⟨by omega, by omega⟩, a3⟩, hc⟩
    · rintro ⟨⟨i, j, ⟨⟨a1, a2⟩, a3⟩, hc⟩, ⟨i', j', ⟨⟨b1, b2⟩, b3⟩, hc'⟩⟩
      have := side_lv f hw ⟨hin.1, hin.2.1⟩ hin.2.2 (i := i) (j := j) (i' := i') (j' := j') ⟨⟨a1, by omega⟩, a3⟩ ⟨⟨by omega, by omega⟩, b3⟩ (by rw [hc, hc'])
      omega
def waysN (cl : Nat → Nat → Int) (boxes : List Box) : Nat → Rc → Nat
  | 0, _ => 0
  | n + 1, (r, c, ph, pw) => if (listL boxes (natB r c ph pw) boxes.length).length = 1 then 1 else ((cutsL cl r c ph pw).map fun x => waysN cl boxes n (oneR r c ph pw x) * waysN cl boxes n (twoR r c ph pw x)).sum
end Go.Proofs.Ytdhnjecbdclmaaa
end
