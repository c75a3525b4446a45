/- Texts of this claim's, joined by a program: OKindQ, OKindR, OAsked, OSpecAll, OPlanRoom, OOrderIs, OOrderN. -/
import Derived.Test.YtdhnjecbdclmaaaKOJustP
import Derived.Test.YtdhnjecbdclmaaaKOFourDM
import Derived.Test.YtdhnjecbdclmaaaKOBitPM
import Derived.Test.YtdhnjecbdclmaaaKOOrders
import Derived.Laws.ResultCell
import Derived.Laws.Rows
import Derived.Test.YtdhnjecbdclmaaaKOL10x
section
namespace Go.Proofs.Ytdhnjecbdclmaaa
open Go.RowKit Go.Shelf Go.Proofs.YtdhnjecbdclmaaaW.PrintWords Go.Proofs.YtdhnjecbdclmaaaW.PrintMore
set_option linter.unusedVariables false
set_option linter.unusedSimpArgs false
set_option linter.unusedSectionVars false
theorem flat_rects {cl : Nat → Nat → Int} {boxes : List Box} {h wd : Nat} (f : Flat cl boxes h wd) : Rects cl h wd := by
  intro i j hi hj
  obtain ⟨k, hk, e⟩ := f.num i j hi hj
  obtain ⟨r, c, ph, pw, e1, g1, g2, g3, g4, g5⟩ := f.box k hk
  have u := (g5 i j hi hj).1 e
  refine ⟨r, r + ph, c, c + pw, ⟨u.1.1, u.1.2, g3⟩, ⟨u.2.1, u.2.2, g4⟩, fun i' j' hi' hj' => ?_⟩
  rw [e]
  exact g5 i' j' hi' hj'
theorem kind_two {cl : Nat → Nat → Int} {boxes : List Box} {h wd : Nat} (f : Flat cl boxes h wd) (hc : NoCross cl h wd) {a b : Nat} (ha : a < boxes.length) (hb : b < boxes.length) (hne : a ≠ b) :
    leftR cl h wd boxes.length a b = true ∨ leftR cl h wd boxes.length b a = true ∨ aboveR cl h wd boxes.length a b = true ∨ aboveR cl h wd boxes.length b a = true := by
  obtain ⟨r, c, ph, pw, e1, g1, g2, g3, g4, g5⟩ := f.box a ha
  obtain ⟨r', c', ph', pw', e1', k1, k2, k3, k4, k5⟩ := f.box b hb
  have ca : cl r c = (a : Int) := (g5 r c (by omega) (by omega)).2 ⟨⟨by omega, by omega⟩, by omega, by omega⟩
  have cb : cl r' c' = (b : Int) := (k5 r' c' (by omega) (by omega)).2 ⟨⟨by omega, by omega⟩, by omega, by omega⟩
  have num := f.num
  have key := each_two (flat_rects f) hc (L := fun u v => ∃ x y : Nat, u = x ∧ v = y ∧ x < boxes.length ∧ y < boxes.length ∧ leftR cl h wd boxes.length x y = true)
    (A := fun u v => ∃ x y : Nat, u = x ∧ v = y ∧ x < boxes.length ∧ y < boxes.length ∧ aboveR cl h wd boxes.length x y = true)
    (fun u v s => by
      obtain ⟨x, i, j, h1, h2, h3, h4, h5, ea, eb⟩ := s
      obtain ⟨k, hk, ek⟩ := num i (x - 1) h3 (by omega)
      obtain ⟨m, hm, em⟩ := num j x h4 h2
      refine ⟨k, m, by rw [← ea, ek], by rw [← eb, em], hk, hm, closeB_sub ((just_left cl).2 ⟨x, i, j, h1, h2, h3, h4, h5, ek, em⟩)⟩)
    (fun u v z hl s => by
      obtain ⟨x0, y0, rfl, rfl, hx0, hy0, hR⟩ := hl
      obtain ⟨x, i, j, h1, h2, h3, h4, h5, ea, eb⟩ := s
      obtain ⟨m, hm, em⟩ := num j x h4 h2
      exact ⟨x0, m, rfl, by rw [← eb, em], hx0, hm, closeB_trans hx0 hy0 hR (closeB_sub ((just_left cl).2 ⟨x, i, j, h1, h2, h3, h4, h5, ea, em⟩))⟩)
    (fun u v z s hl => by
      obtain ⟨x0, y0, rfl, rfl, hx0, hy0, hR⟩ := hl
      obtain ⟨x, i, j, h1, h2, h3, h4, h5, ea, eb⟩ := s
      obtain ⟨m, hm, em⟩ := num i (x - 1) h3 (by omega)
      exact ⟨m, y0, by rw [← ea, em], rfl, hm, hy0, closeB_trans hm hx0 (closeB_sub ((just_left cl).2 ⟨x, i, j, h1, h2, h3, h4, h5, em, eb⟩)) hR⟩)
    (fun u v s => by
      obtain ⟨x, i, j, h1, h2, h3, h4, h5, ea, eb⟩ := s
      obtain ⟨k, hk, ek⟩ := num (x - 1) i (by omega) h3
      obtain ⟨m, hm, em⟩ := num x j h2 h4
      have ea' : cl (x - 1) i = u := ea
      have eb' : cl x j = v := eb
      refine ⟨k, m, by rw [← ea', ek], by rw [← eb', em], hk, hm, closeB_sub ((just_above cl).2 ⟨x, i, j, h1, h2, h3, h4, h5, ek, em⟩)⟩)
    (fun u v z hl s => by
      obtain ⟨x0, y0, rfl, rfl, hx0, hy0, hR⟩ := hl
      obtain ⟨x, i, j, h1, h2, h3, h4, h5, ea, eb⟩ := s
      obtain ⟨m, hm, em⟩ := num x j h2 h4
      have eb' : cl x j = z := eb
      exact ⟨x0, m, rfl, by rw [← eb', em], hx0, hm, closeB_trans hx0 hy0 hR (closeB_sub ((just_above cl).2 ⟨x, i, j, h1, h2, h3, h4, h5, ea, em⟩))⟩)
    (fun u v z s hl => by
      obtain ⟨x0, y0, rfl, rfl, hx0, hy0, hR⟩ := hl
      obtain ⟨x, i, j, h1, h2, h3, h4, h5, ea, eb⟩ := s
      obtain ⟨m, hm, em⟩ := num (x - 1) i (by omega) h3
      have ea' : cl (x - 1) i = u := ea
      exact ⟨m, y0, by rw [← ea', em], rfl, hm, hy0, closeB_trans hm hx0 (closeB_sub ((just_above cl).2 ⟨x, i, j, h1, h2, h3, h4, h5, em, eb⟩)) hR⟩)
    (i := r) (j := c) (i' := r') (j' := c') (by omega) (by omega) (by omega) (by omega) (by rw [ca, cb]; omega)
  rw [ca, cb] at key
  rcases key with ⟨x, y, ex, ey, _, _, hR⟩ | ⟨x, y, ex, ey, _, _, hR⟩ | ⟨x, y, ex, ey, _, _, hR⟩ | ⟨x, y, ex, ey, _, _, hR⟩
  · obtain rfl : a = x := by omega
    obtain rfl : b = y := by omega
    exact .inl hR
  · obtain rfl : b = x := by omega
    obtain rfl : a = y := by omega
    exact .inr (.inl hR)
  · obtain rfl : a = x := by omega
    obtain rfl : b = y := by omega
    exact .inr (.inr (.inl hR))
  · obtain rfl : b = x := by omega
    obtain rfl : a = y := by omega
    exact .inr (.inr (.inr hR))
theorem left_irr {cl : Nat → Nat → Int} {boxes : List Box} {h wd : Nat} (f : Flat cl boxes h wd) {a : Nat} (ha : a < boxes.length) : leftR cl h wd boxes.length a a = false ∧ aboveR cl h wd boxes.length a a = false := by
  constructor
  · cases e : leftR cl h wd boxes.length a a with
    | false => rfl
    | true =>
      obtain ⟨rk, hg⟩ := (leftR_grows f).1
      exact absurd (hg.1 a a ha ha e) (Nat.lt_irrefl _)
  · cases e : aboveR cl h wd boxes.length a a with
    | false => rfl
    | true =>
      obtain ⟨rk, hg⟩ := (aboveR_grows f).1
      exact absurd (hg.1 a a ha ha e) (Nat.lt_irrefl _)
end Go.Proofs.Ytdhnjecbdclmaaa
end
section
namespace Go.Proofs.Ytdhnjecbdclmaaa
open Go.RowKit Go.Shelf Go.Proofs.YtdhnjecbdclmaaaW.PrintWords Go.Proofs.YtdhnjecbdclmaaaW.PrintMore
set_option linter.unusedVariables false
set_option linter.unusedSimpArgs false
theorem sumTo_zero {f : Nat → Nat} : ∀ {n : Nat}, sumTo f n = 0 → ∀ k, k < n → f k = 0 := by
  intro n
  induction n with
  | zero => intro _ k hk; omega
  | succ n ih =>
    intro h k hk
    have h' : sumTo f n + f n = 0 := h
    by_cases e : k = n
    · subst e; omega
    · exact ih (by omega) k (by omega)
theorem noCross_of {cl : Nat → Nat → Int} {h wd : Nat} (hz : allPts cl wd 4 1 (h - 1) = 0) : NoCross cl h wd := by
  intro i j h1 h2 h3 h4 hc
  obtain ⟨c1, c2, c3, c4, c5, c6⟩ := hc
  rw [allPts_sum] at hz
  have a := sumTo_zero hz (i - 1) (by omega)
  have b := sumTo_zero a (j - 1) (by omega)
  rw [show 1 + (i - 1) = i by omega, show 1 + (j - 1) = j by omega] at b
  have m : meets cl i j = 4 := by
    unfold meets
    rw [firsts4_len, if_neg (fun e => c1 e.symm), if_neg (fun e => e.elim (fun e => c2 e.symm) fun e => c4 e.symm), if_neg (fun e => e.elim (fun e => c3 e.symm) fun e => e.elim (fun e => c5 e.symm) fun e => c6 e.symm)]
  unfold ptI at b
  rw [m] at b
  simp at b
end Go.Proofs.Ytdhnjecbdclmaaa
end
section
namespace Go.Proofs.Ytdhnjecbdclmaaa
open Go.RowKit Go.Shelf Go.Proofs.YtdhnjecbdclmaaaW.PrintWords Go.Proofs.YtdhnjecbdclmaaaW.PrintMore
set_option linter.unusedVariables false
set_option linter.unusedSimpArgs false
theorem results_row_tmp {P : Program} {fn : Func} {p u : Tmp} {ty : TypeId} (h : fn.results = #[.cell p ty, .tmp u]) (tmps : Array Value) (w : World) (g : Nat) (t : TypeId) (cs : Array Value) (fr : Nat × Nat) (d : TypeDesc)
    (hp : tmps.getD p undef = .pointer (some ⟨g, 0, none⟩)) (hg : w.heap[g]? = some (.cells cs t fr))
    (hu : P.underlying ty = some d) (hd : (match d with | .struct _ | .array _ _ => true | _ => false) = true) (hi : (P.info? ty).map (·.size) = some cs.size) :
    (results fn tmps).run P w = .ok (.tuple #[.agg cs, tmps.getD u undef]) w := by
  rw [results_cell_tmp h, hp]
  show (((loadVar ty ⟨g, 0, none⟩).run P w).andThen fun v w₂ => _) = _
  rw [run_loadVar_row w g t ty cs fr d hg hu hd hi]
  rfl
theorem RelW.later {W W' : World} {g n : Nat} {R : Nat → Nat → Bool} (h : RelW W g n R) (hb : Below W.heap.size W W') : RelW W' g n R :=
  h.keep fun k k1 k2 => hb.block k (by
    by_cases e : k = g
    · subst e; exact (Array.getElem?_eq_some_iff.1 h.top).1
    · have := (Array.getElem?_eq_some_iff.1 (h.row (k - g - 1) (by omega))).1; omega)
def OrdE (w w' : World) (p : List ByteArray) (e : Ending) : Prop := Below w.heap.size w w' ∧
  ((plainP p = true ∧ ∃ g1 g2, e = .returned (.tuple #[.agg #[.slice (some ⟨g1, 0, none⟩) (boxesP p).length (boxesP p).length, .slice (some ⟨g2, 0, none⟩) (boxesP p).length (boxesP p).length], .bool true]) ∧
      RelW w' g1 (boxesP p).length (kRound (boxesP p).length (justB (clP p) false (wallsL (clP p) p.length (wdP p))) (boxesP p).length) ∧ RelW w' g2 (boxesP p).length (kRound (boxesP p).length (justB (clP p) true (wallsL (clP p) p.length (wdP p))) (boxesP p).length)) ∨
   (plainP p = false ∧ e = .returned (.tuple #[.agg #[.slice none 0 0, .slice none 0 0], .bool false])))
set_option maxRecDepth 100000 in
set_option maxHeartbeats 8000000 in
theorem ordersOf_any (A : Option Addr) (cap : Nat) (p : List ByteArray) (hp : SmallP p) (w : World) (hr0 : Kd.C Kd.string w A p.length p) (hc0 : p.length ≤ cap) :
    Calls Try.prog 129 #[.slice A p.length cap] w fun e w' => OrdE w w' p e := by
  obtain ⟨W1, hW1⟩ : ∃ W1 : World, W1 = w.alloc (.cells #[.slice none 0 0, .slice none 0 0] 101) := ⟨_, rfl⟩
  have HB1 : Aside0 (Below w.heap.size w W1 ∧ W1.heap.size = w.heap.size + 1 ∧ W1.heap[w.heap.size]? = some (.cells #[.slice none 0 0, .slice none 0 0] 101 (0, 0))) := ⟨by rw [hW1]; exact ⟨(Below.refl _ _).alloc (Nat.le_refl _) _, by simp, heap_alloc_new w _⟩⟩
  have HPO := Aside0.mk (plainOf_any A cap p hp W1 (Kd.C_below hr0 HB1.out.1) hc0)
  clear hr0 hp
  go_enter Try.func129, Try.ntmps129
  go_wp2_with fail
  rw [← hW1]
  clear hW1
  refine HPO.out.mono ?_
  rintro e w1 ⟨hb1, ⟨hpl, fb, rfl, hfl⟩ | ⟨hpl, o, rfl⟩⟩
  · have hpg : planG p = true := by unfold plainP at hpl; exact (Bool.and_eq_true_iff.1 hpl).1
    have HO := Aside0.mk (orders_any fb p.length (wdP p) (clP p) (boxesP p) (planFlat hpg) w1 hfl)
    have HPL := Aside0.mk hpl
    have hr1 : w1.heap[w.heap.size]? = some (.cells #[.slice none 0 0, .slice none 0 0] 101 (0, 0)) := (hb1.block w.heap.size (by have := HB1.out.2.1; omega)).trans HB1.out.2.2
    have HR1 := Aside0.mk (And.intro hr1 hb1)
    clear hpl hpg hfl hb1 hr1
    go_wp2_with fail
    refine HO.out.mono ?_
    rintro e w2 ⟨⟨g1, g2, rfl, l1, l2, r1, r2⟩, hb2⟩
    have hlt : w.heap.size < w1.heap.size := (Array.getElem?_eq_some_iff.1 HR1.out.1).1
    have hr2 := (hb2.block w.heap.size hlt).trans HR1.out.1
    obtain ⟨z0, z1, z2, z3⟩ := pair_zero hr2
    have H2 := Aside0.mk (And.intro l1 (And.intro l2 (And.intro r1 (And.intro r2 (And.intro hb2 (And.intro hr2 hlt))))))
    clear l1 l2 r1 r2 hb2 hr2 hlt
    go_wp2_with fail
    obtain ⟨l1, l2, r1, r2, hb2, hr2, hlt⟩ := H2.out
    refine bodyPost_ret (results_row_tmp rfl _ _ w.heap.size 101 _ _ _ rfl (two_set (two_set hr2 _).1 _).2 Try.underlying101 rfl (by kernel_rfl)) rfl ?_
    have hbb : Below w.heap.size w w2 := HB1.out.1.trans ((HR1.out.2.trans (hb2.mono HR1.out.2.size)).mono (by have := HB1.out.2.1; omega))
    refine ⟨below_store2 hbb (Nat.le_refl _), .inl ⟨HPL.out, g1, g2, rfl, r1.keep fun k a b => ?_, r2.keep fun k a b => ?_⟩⟩
    · exact (Below.heap_setCell _ _ _ _ (by show k ≠ w.heap.size; omega)).trans (Below.heap_setCell _ _ _ _ (by show k ≠ w.heap.size; omega))
    · exact (Below.heap_setCell _ _ _ _ (by show k ≠ w.heap.size; omega)).trans (Below.heap_setCell _ _ _ _ (by show k ≠ w.heap.size; omega))
  · have hr1 : w1.heap[w.heap.size]? = some (.cells #[.slice none 0 0, .slice none 0 0] 101 (0, 0)) := (hb1.block w.heap.size (by have := HB1.out.2.1; omega)).trans HB1.out.2.2
    obtain ⟨z0, z1, z2, z3⟩ := pair_zero hr1
    have HR1 := Aside0.mk (And.intro hr1 hb1)
    have HPL := Aside0.mk hpl
    clear hpl hb1 hr1
    go_wp2_with fail
    refine bodyPost_ret (results_row_tmp rfl _ _ w.heap.size 101 _ _ _ rfl (two_set (two_set HR1.out.1 _).1 _).2 Try.underlying101 rfl (by kernel_rfl)) rfl ?_
    have hbb : Below w.heap.size w w1 := HB1.out.1.trans (HR1.out.2.mono (by have := HB1.out.2.1; omega))
    exact ⟨below_store2 hbb (Nat.le_refl _), .inr ⟨HPL.out, rfl⟩⟩
def relP (p : List ByteArray) (level : Bool) : Nat → Nat → Bool := if level then aboveR (clP p) p.length (wdP p) (boxesP p).length else leftR (clP p) p.length (wdP p) (boxesP p).length
def askedP (p : List ByteArray) (level : Bool) (a b : Int) : Bool := plainP p && (decide (0 ≤ a ∧ 0 ≤ b ∧ a < (boxesP p).length ∧ b < (boxesP p).length) && relP p level a.toNat b.toNat)
theorem rel_false (p : List ByteArray) {x y : Nat} (hx : x < (boxesP p).length) (hy : y < (boxesP p).length) : kRound (boxesP p).length (justB (clP p) false (wallsL (clP p) p.length (wdP p))) (boxesP p).length x y = relP p false x y := kRound_close _ _ x y hx hy
theorem rel_true (p : List ByteArray) {x y : Nat} (hx : x < (boxesP p).length) (hy : y < (boxesP p).length) : kRound (boxesP p).length (justB (clP p) true (wallsL (clP p) p.length (wdP p))) (boxesP p).length x y = relP p true x y := kRound_close _ _ x y hx hy
set_option maxRecDepth 100000 in
theorem lefts_any (x y : Value) (w : World) : Calls Try.prog 125 #[.agg #[x, y]] w fun e w' => e = .returned x ∧ Below w.heap.size w w' := by
  go_enter Try.func125, Try.ntmps125
  go_wp2_with fail
  go_ret
  exact ⟨rfl, (Below.refl _ _).alloc (Nat.le_refl _) _⟩
set_option maxRecDepth 100000 in
theorem aboves_any (x y : Value) (w : World) : Calls Try.prog 126 #[.agg #[x, y]] w fun e w' => e = .returned y ∧ Below w.heap.size w w' := by
  go_enter Try.func126, Try.ntmps126
  go_wp2_with fail
  go_ret
  exact ⟨rfl, (Below.refl _ _).alloc (Nat.le_refl _) _⟩
set_option maxRecDepth 100000 in
set_option maxHeartbeats 8000000 in
theorem asked_any (level : Bool) (A : Option Addr) (cap : Nat) (p : List ByteArray) (hp : SmallP p) (a b : Int) (w : World) (hr0 : Kd.C Kd.string w A p.length p) (hc0 : p.length ≤ cap) :
    Calls Try.prog 124 #[.slice A p.length cap, .int .i64 a, .int .i64 b, .func (.func (if level = true then 126 else 125)) #[] #[]] w fun e w' => e = .returned (.bool (askedP p level a b)) ∧ Below w.heap.size w w' := by
  have HOO := Aside0.mk (ordersOf_any A cap p hp w hr0 hc0)
  clear hr0 hp
  cases level with
  | true =>
    rw [if_pos rfl]
    go_enter Try.func124, Try.ntmps124
    go_wp2_with fail
    refine HOO.out.mono ?_
    rintro e w1 ⟨hb1, ⟨hpl, g1, g2, rfl, r1, r2⟩ | ⟨hpl, rfl⟩⟩
    · have HB1 := Aside0.mk (And.intro hb1 (And.intro r1 r2))
      have HPL := Aside0.mk hpl
      obtain ⟨n, hn⟩ : ∃ n, (boxesP p).length = n := ⟨_, rfl⟩
      have HN := Aside0.mk hn
      clear hb1 hpl r1 r2
      rw [hn]
      clear hn
      by_cases h1 : min a b < 0
      · go_wp2_with fail
        go_ret
        refine ⟨?_, HB1.out.1.alloc HB1.out.1.size _⟩
        have e : askedP p true a b = false := by
          unfold askedP
          rw [decide_eq_false (by omega), Bool.false_and, Bool.and_false]
        rw [e]; rfl
      · by_cases h2 : (n : Int) ≤ max a b
        · go_wp2_with fail
          go_ret
          refine ⟨?_, HB1.out.1.alloc HB1.out.1.size _⟩
          have e : askedP p true a b = false := by
            unfold askedP
            rw [decide_eq_false (by rw [HN.out]; omega), Bool.false_and, Bool.and_false]
          rw [e]; rfl
        · obtain ⟨x, rfl⟩ : ∃ x : Nat, a = (x : Int) := ⟨a.toNat, by omega⟩
          obtain ⟨y, rfl⟩ : ∃ y : Nat, b = (y : Int) := ⟨b.toNat, by omega⟩
          have hx : x < n := by omega
          have hy : y < n := by omega
          have x0 : (0 : Int) ≤ (x : Int) := by omega
          have y0 : (0 : Int) ≤ (y : Int) := by omega
          have xn : (x : Int) < (n : Int) := by omega
          have yn : (y : Int) < (n : Int) := by omega
          go_wp2_with fail
          refine (aboves_any _ _ _).mono ?_
          rintro e w2 ⟨rfl, hb2⟩
          have hr := (HB1.out.2.2.later ((Below.refl _ _).alloc (Nat.le_refl _) _)).later hb2
          rw [HN.out] at hr
          have c1 := hr.cell hx
          have c2 := (hr.at hx hy).1
          rw [← HN.out] at c2
          rw [rel_true p (by rw [HN.out]; exact hx) (by rw [HN.out]; exact hy)] at c2
          have e9 : askedP p true (x : Int) (y : Int) = relP p true x y := by
            unfold askedP
            rw [HPL.out, decide_eq_true (by rw [HN.out]; omega)]
            simp
          have HE9 := Aside0.mk e9
          have HBF := Aside0.mk ((HB1.out.1.alloc HB1.out.1.size _).trans (hb2.mono (by have := HB1.out.1.size; simp; omega)))
          clear hr e9 hb2
          go_wp2_with fail
          go_ret
          exact ⟨by rw [HE9.out]; rfl, HBF.out⟩
    · have HB1 := Aside0.mk hb1
      have HPL := Aside0.mk hpl
      clear hb1 hpl
      go_wp2_with fail
      go_ret
      refine ⟨?_, HB1.out.alloc HB1.out.size _⟩
      have e : askedP p true a b = false := by
        unfold askedP
        rw [HPL.out, Bool.false_and]
      rw [e]; rfl
  | false =>
    rw [if_neg (by simp)]
    go_enter Try.func124, Try.ntmps124
    go_wp2_with fail
    refine HOO.out.mono ?_
    rintro e w1 ⟨hb1, ⟨hpl, g1, g2, rfl, r1, r2⟩ | ⟨hpl, rfl⟩⟩
    · have HB1 := Aside0.mk (And.intro hb1 (And.intro r1 r2))
      have HPL := Aside0.mk hpl
      obtain ⟨n, hn⟩ : ∃ n, (boxesP p).length = n := ⟨_, rfl⟩
      have HN := Aside0.mk hn
      clear hb1 hpl r1 r2
      rw [hn]
      clear hn
      by_cases h1 : min a b < 0
      · go_wp2_with fail
        go_ret
        refine ⟨?_, HB1.out.1.alloc HB1.out.1.size _⟩
        have e : askedP p false a b = false := by
          unfold askedP
          rw [decide_eq_false (by omega), Bool.false_and, Bool.and_false]
        rw [e]; rfl
      · by_cases h2 : (n : Int) ≤ max a b
        · go_wp2_with fail
          go_ret
          refine ⟨?_, HB1.out.1.alloc HB1.out.1.size _⟩
          have e : askedP p false a b = false := by
            unfold askedP
            rw [decide_eq_false (by rw [HN.out]; omega), Bool.false_and, Bool.and_false]
          rw [e]; rfl
        · obtain ⟨x, rfl⟩ : ∃ x : Nat, a = (x : Int) := ⟨a.toNat, by omega⟩
          obtain ⟨y, rfl⟩ : ∃ y : Nat, b = (y : Int) := ⟨b.toNat, by omega⟩
          have hx : x < n := by omega
          have hy : y < n := by omega
          have x0 : (0 : Int) ≤ (x : Int) := by omega
          have y0 : (0 : Int) ≤ (y : Int) := by omega
          have xn : (x : Int) < (n : Int) := by omega
          have yn : (y : Int) < (n : Int) := by omega
          go_wp2_with fail
          refine (lefts_any _ _ _).mono ?_
          rintro e w2 ⟨rfl, hb2⟩
          have hr := (HB1.out.2.1.later ((Below.refl _ _).alloc (Nat.le_refl _) _)).later hb2
          rw [HN.out] at hr
          have c1 := hr.cell hx
          have c2 := (hr.at hx hy).1
          rw [← HN.out] at c2
          rw [rel_false p (by rw [HN.out]; exact hx) (by rw [HN.out]; exact hy)] at c2
          have e9 : askedP p false (x : Int) (y : Int) = relP p false x y := by
            unfold askedP
            rw [HPL.out, decide_eq_true (by rw [HN.out]; omega)]
            simp
          have HE9 := Aside0.mk e9
          have HBF := Aside0.mk ((HB1.out.1.alloc HB1.out.1.size _).trans (hb2.mono (by have := HB1.out.1.size; simp; omega)))
          clear hr e9 hb2
          go_wp2_with fail
          go_ret
          exact ⟨by rw [HE9.out]; rfl, HBF.out⟩
    · have HB1 := Aside0.mk hb1
      have HPL := Aside0.mk hpl
      clear hb1 hpl
      go_wp2_with fail
      go_ret
      refine ⟨?_, HB1.out.alloc HB1.out.size _⟩
      have e : askedP p false a b = false := by
        unfold askedP
        rw [HPL.out, Bool.false_and]
      rw [e]; rfl
end Go.Proofs.Ytdhnjecbdclmaaa
end
section
namespace Go.Proofs.Ytdhnjecbdclmaaa
open Go.RowKit Go.Shelf Go.Proofs.YtdhnjecbdclmaaaW.PrintWords Go.Proofs.YtdhnjecbdclmaaaW.PrintMore
set_option linter.unusedVariables false
set_option linter.unusedSimpArgs false
theorem bits_wrap {n : Nat} (hn : n ≤ 9) (R : Nat → Bool) : IntKind.i64.wrap ((bitsN R n : Nat) : Int) = ((bitsN R n : Nat) : Int) := by
  have := bitsN_small R hn
  rw [IntKind.wrap_i64]; omega
theorem or_sets {n : Nat} (hn : n ≤ 9) (R S : Nat → Bool) : Go.bits .or .i64 ((bitsN R n : Nat) : Int) ((bitsN S n : Nat) : Int) = ((bitsN (fun j => R j || S j) n : Nat) : Int) := by
  unfold Go.bits
  show IntKind.i64.wrap (((BitVec.ofInt 64 ((bitsN R n : Nat) : Int) ||| BitVec.ofInt 64 ((bitsN S n : Nat) : Int)).toNat : Nat) : Int) = _
  rw [or_int (bitsN_small R hn) (bitsN_small S hn), bits_or, bits_wrap hn]
theorem and_shr {n : Nat} (hn : n ≤ 9) (R : Nat → Bool) {c : Nat} (hc : c < n) : Go.bits .and .i64 (shr .i64 ((bitsN R n : Nat) : Int) (c : Int)) 1 = if R c = true then 1 else 0 := by
  have hm := bits_mem R n c
  have hs := bitsN_small R hn
  have e : shr .i64 ((bitsN R n : Nat) : Int) (c : Int) = ((bitsN R n / 2 ^ c : Nat) : Int) := by
    unfold shr
    rw [Int.toNat_natCast, show min c IntKind.i64.bits = c from Nat.min_eq_left (by show c ≤ 64; omega)]
    push_cast
    rfl
  rw [e]
  obtain ⟨q, hq⟩ : ∃ q, bitsN R n / 2 ^ c = q := ⟨_, rfl⟩
  have hq9 : q < 512 := by rw [← hq]; exact Nat.lt_of_le_of_lt (Nat.div_le_self _ _) hs
  rw [hq] at hm ⊢
  unfold Go.bits
  show IntKind.i64.wrap (((BitVec.ofInt 64 (q : Int) &&& BitVec.ofInt 64 1).toNat : Nat) : Int) = _
  rw [and_int hq9, hm]
  by_cases h : R c = true
  · rw [if_pos ⟨hc, h⟩, if_pos h]; decide
  · rw [if_neg (fun x => h x.2), if_neg h]; decide
theorem rd_sets {R : Nat → Nat → Bool} {n a : Nat} (ha : a < n) : rd (setsL R n) (a : Int) = ((bitsN (R a) n : Nat) : Int) := by
  unfold rd setsL
  rw [Int.toNat_natCast, List.getD_eq_getElem?_getD, List.getElem?_map, List.getElem?_range ha]
  rfl
theorem setsL_row {R : Nat → Nat → Bool} {n a c : Nat} (ha : a < n) (h : R a c = true) : (setsL R n).set a ((bitsN (fun j => R a j || R c j) n : Nat) : Int) = setsL (closeRow R c a) n := by
  apply List.ext_getElem?
  intro i
  rw [List.getElem?_set]
  unfold setsL
  simp only [List.getElem?_map, List.length_map, List.length_range]
  by_cases e : a = i
  · subst e
    rw [if_pos rfl, if_pos ha, List.getElem?_range ha]
    show some _ = some _
    congr 1
    show ((_ : Nat) : Int) = ((_ : Nat) : Int)
    congr 1
    apply bitsN_cong
    intro j hj
    unfold closeRow
    rw [if_pos rfl, h, Bool.true_and]
  · rw [if_neg e]
    by_cases hi : i < n
    · rw [List.getElem?_range hi]
      show some _ = some _
      congr 1
      show ((_ : Nat) : Int) = ((_ : Nat) : Int)
      congr 1
      apply bitsN_cong
      intro j hj
      unfold closeRow
      rw [if_neg (fun h => e h.symm)]
    · rw [List.getElem?_eq_none (by simp; omega)]; rfl
theorem closeRow_no {R : Nat → Nat → Bool} {c a : Nat} (h : R a c = false) : closeRow R c a = R := by
  funext x y
  unfold closeRow
  by_cases e : x = a
  · subst e; rw [if_pos rfl, h, Bool.false_and, Bool.or_false]
  · rw [if_neg e]
theorem wnxt (i : Nat) (hi : i ≤ 2000000) : wrap64 ((i : Int) + 1) = ((i + 1 : Nat) : Int) := by rw [wrap64]; omega
theorem all_l1 {n : Nat} (hn : n ≤ 9) (R : Nat → Nat → Bool) {c : Nat} (hc : c < n) {V : List Int} (hV : Ev (fun k => L10.spec_l5All.l0 k (setsL (closeA R c n) n) ((c + 1 : Nat) : Int)) V) : ∀ d a, a + d = n → Ev (fun k => L10.spec_l5All.l1 k (setsL (closeA R c a) n) (c : Int) (a : Int)) V := by
  intro d
  induction d with
  | zero =>
    intro a ha
    obtain rfl : a = n := by omega
    refine hV.step fun k => ?_
    show L10.spec_l5All.l1 (k + 1) _ _ _ = _
    conv => lhs; unfold L10.spec_l5All.l1
    rw [if_neg (by rw [setsL_len]; omega), wnxt c (by omega)]
  | succ d ih =>
    intro a ha
    have hE := ih (a + 1) (by omega)
    have han : a < n := by omega
    refine hE.step fun k => ?_
    show L10.spec_l5All.l1 (k + 1) _ _ _ = _
    conv => lhs; unfold L10.spec_l5All.l1
    rw [if_pos (by rw [setsL_len]; omega), if_pos (by omega), if_pos (by omega), rd_sets han, rd_sets hc, and_shr hn _ hc, or_sets hn, Int.toNat_natCast, wnxt a (by omega)]
    show _ = L10.spec_l5All.l1 k (setsL (closeRow (closeA R c a) c a) n) _ _
    cases hR : closeA R c a a c with
    | true =>
      rw [if_pos (by simp), if_pos (by rw [setsL_len]; omega), setsL_row han hR]
    | false =>
      rw [if_neg (by simp), closeRow_no hR]
theorem all_l0 {n : Nat} (hn : n ≤ 9) (R : Nat → Nat → Bool) : ∀ d c, c + d = n → Ev (fun k => L10.spec_l5All.l0 k (setsL (closeK n R c) n) (c : Int)) (setsL (closeB n R) n) := by
  intro d
  induction d with
  | zero =>
    intro c hc
    obtain rfl : c = n := by omega
    refine Ev.now fun k => ?_
    conv => lhs; unfold L10.spec_l5All.l0
    rw [if_neg (by rw [setsL_len]; omega)]
    rfl
  | succ d ih =>
    intro c hc
    have hE := all_l1 hn (closeK n R c) (c := c) (by omega) (ih (c + 1) (by omega)) n 0 (by omega)
    refine hE.step fun k => ?_
    show L10.spec_l5All.l0 (k + 1) _ _ = _
    conv => lhs; unfold L10.spec_l5All.l0
    rw [if_pos (by rw [setsL_len]; omega)]
    rfl
theorem all_ev (p : List ByteArray) (hpl : planG p = true) (kind : Bool) : Ev (fun k => L10.spec_l5All.f k p (orderI kind)) (setsL (relP p kind) (boxesP p).length) := by
  have hn := (planFlat hpl).few
  have h := all_l0 hn (justB (clP p) kind (wallsL (clP p) p.length (wdP p))) (boxesP p).length 0 (by omega)
  have hj : spec_l5Just.f p (orderI kind) = some (justS p kind) := by
    unfold spec_l5Just.f orderI
    rw [if_pos hpl]
    cases kind <;> rfl
  have hr : closeB (boxesP p).length (justB (clP p) kind (wallsL (clP p) p.length (wdP p))) = relP p kind := by
    unfold relP
    cases kind <;> rfl
  rw [hr] at h
  unfold L10.spec_l5All.f
  rw [hj]
  exact h
end Go.Proofs.Ytdhnjecbdclmaaa
end
section
namespace Go.Proofs.Ytdhnjecbdclmaaa
open Go.RowKit Go.Shelf Go.Proofs.YtdhnjecbdclmaaaW.PrintWords Go.Proofs.YtdhnjecbdclmaaaW.PrintMore
set_option linter.unusedVariables false
theorem plan_roomsE {p : List ByteArray} (h : planG p = true) : Ev (fun n => L2.spec_l1Rooms.f n p) ((boxesP p).length : Int) := by
  obtain ⟨k, hk⟩ := plan_rooms h
  refine ⟨k, fun n hn => ?_⟩
  have hO := up (g := fun k' => L2.spec_l1Rooms.f k' p) (fun k' => L2.spec_l1Rooms.mono p k') hk (n - k)
  rwa [show k + (n - k) = n by omega] at hO
end Go.Proofs.Ytdhnjecbdclmaaa
end
section
namespace Go.Proofs.Ytdhnjecbdclmaaa
open Go.RowKit Go.Shelf Go.Proofs.YtdhnjecbdclmaaaW.PrintWords Go.Proofs.YtdhnjecbdclmaaaW.PrintMore
set_option linter.unusedVariables false
set_option linter.unusedSimpArgs false
theorem given_f (p : List ByteArray) (hp : SmallP p) (hpg : planG p = true) (a : Int) : L10.spec_l1Given.f p a = some (decide (0 ≤ a ∧ a < (boxesP p).length)) := by
  have h1 : spec_PlanIn.f p = some (planG p) := by unfold spec_PlanIn.f; rw [if_pos hp]
  have hr : spec_l1Rooms.f p = some ((boxesP p).length : Int) := tot_ev (plan_roomsE hpg)
  have hn := (planFlat hpg).few
  unfold L10.spec_l1Given.f
  rw [h1, Option.bind_some, if_pos hpg, hr, Option.bind_some, show wrap64 (((boxesP p).length : Int) - 1) = ((boxesP p).length : Int) - 1 by rw [wrap64]; omega]
  unfold L10.spec_l6In.f
  by_cases h : a ≥ 0
  · rw [if_pos h, Option.bind_some]
    congr 1
    rw [Bool.eq_iff_iff, decide_eq_true_iff, decide_eq_true_iff]; omega
  · rw [if_neg h, Option.bind_some]
    congr 1
    rw [decide_eq_false (by omega)]
theorem rooms_2 (p : List ByteArray) (hp : SmallP p) (a b : Int) : L10.spec_l5Rooms.f p a b = some (plainP p && decide (0 ≤ a ∧ 0 ≤ b ∧ a < (boxesP p).length ∧ b < (boxesP p).length)) := by
  have h5 : L10.spec_l5Plain.f p = some (plainP p) := by
    unfold L10.spec_l5Plain.f spec_WallPlain.f
    rw [if_pos hp]; rfl
  unfold L10.spec_l5Rooms.f
  rw [h5, Option.bind_some]
  cases hpl : plainP p with
  | false => rw [if_neg (by simp)]; rfl
  | true =>
    have hpg : planG p = true := by unfold plainP at hpl; exact (Bool.and_eq_true_iff.1 hpl).1
    rw [if_pos rfl, given_f p hp hpg a, Option.bind_some, given_f p hp hpg b, Bool.true_and]
    by_cases ha : 0 ≤ a ∧ a < (boxesP p).length
    · rw [if_pos (decide_eq_true ha), Option.bind_some]
      congr 1
      rw [Bool.eq_iff_iff, decide_eq_true_iff, decide_eq_true_iff]; omega
    · rw [if_neg (by rw [decide_eq_false ha]; simp)]
      congr 1
      rw [decide_eq_false (by omega)]
theorem bit_eq (x : Bool) : ((if x = true then (1 : Int) else 0) == 1) = x := by cases x <;> rfl
theorem left_ev (p : List ByteArray) (hp : SmallP p) (a b : Int) : Ev (fun k => L10.spec_OrderLeft.f k p a b) (askedP p false a b) := by
  have hR := rooms_2 p hp a b
  unfold L10.spec_OrderLeft.f askedP
  rw [hR]
  cases hpl : plainP p with
  | false => exact Ev.const _
  | true =>
    have hpg : planG p = true := by unfold plainP at hpl; exact (Bool.and_eq_true_iff.1 hpl).1
    rw [Bool.true_and, Bool.true_and]
    by_cases h : 0 ≤ a ∧ 0 ≤ b ∧ a < (boxesP p).length ∧ b < (boxesP p).length
    · rw [decide_eq_true h]
      obtain ⟨x, rfl⟩ : ∃ x : Nat, a = (x : Int) := ⟨a.toNat, by omega⟩
      obtain ⟨y, rfl⟩ : ∃ y : Nat, b = (y : Int) := ⟨b.toNat, by omega⟩
      refine Ev.bind (F := fun k (t116 : List Int) => if 0 ≤ (x : Int) then (if (x : Int) < (t116.length : Int) then (if 0 ≤ (y : Int) then (some ((Go.bits .and .i64 (shr .i64 (rd t116 x) y) 1) == 1)) else (none)) else (none)) else (none)) (all_ev p hpg false) ?_
      rw [setsL_len, if_pos (by omega), if_pos h.2.2.1, if_pos (by omega), rd_sets (by omega), and_shr (planFlat hpg).few _ (by omega), bit_eq]
      exact Ev.const _
    · rw [decide_eq_false h]
      exact Ev.const _
theorem above_ev (p : List ByteArray) (hp : SmallP p) (a b : Int) : Ev (fun k => L10.spec_OrderAbove.f k p a b) (askedP p true a b) := by
  have hR := rooms_2 p hp a b
  unfold L10.spec_OrderAbove.f askedP
  rw [hR]
  cases hpl : plainP p with
  | false => exact Ev.const _
  | true =>
    have hpg : planG p = true := by unfold plainP at hpl; exact (Bool.and_eq_true_iff.1 hpl).1
    rw [Bool.true_and, Bool.true_and]
    by_cases h : 0 ≤ a ∧ 0 ≤ b ∧ a < (boxesP p).length ∧ b < (boxesP p).length
    · rw [decide_eq_true h]
      obtain ⟨x, rfl⟩ : ∃ x : Nat, a = (x : Int) := ⟨a.toNat, by omega⟩
      obtain ⟨y, rfl⟩ : ∃ y : Nat, b = (y : Int) := ⟨b.toNat, by omega⟩
      refine Ev.bind (F := fun k (t116 : List Int) => if 0 ≤ (x : Int) then (if (x : Int) < (t116.length : Int) then (if 0 ≤ (y : Int) then (some ((Go.bits .and .i64 (shr .i64 (rd t116 x) y) 1) == 1)) else (none)) else (none)) else (none)) (all_ev p hpg true) ?_
      rw [setsL_len, if_pos (by omega), if_pos h.2.2.1, if_pos (by omega), rd_sets (by omega), and_shr (planFlat hpg).few _ (by omega), bit_eq]
      exact Ev.const _
    · rw [decide_eq_false h]
      exact Ev.const _
def kindP (p : List ByteArray) (a b : Int) : ByteArray × Bool :=
  if askedP p false a b = true then (⟨#[108]⟩, true) else if askedP p false b a = true then (⟨#[114]⟩, true) else if askedP p true a b = true then (⟨#[117]⟩, true) else if askedP p true b a = true then (⟨#[100]⟩, true) else (⟨#[]⟩, false)
theorem kind_ev (p : List ByteArray) (hp : SmallP p) (a b : Int) : Ev (fun k => L10.spec_OrderKind.f k p a b) (kindP p a b) := by
  have hR := rooms_2 p hp a b
  have hJ : ∀ k, L10.spec_OrderKind.j0 (k + 1) p a b true = some ((⟨#[]⟩ : ByteArray), false) := fun k => by
    unfold L10.spec_OrderKind.j0; rfl
  unfold L10.spec_OrderKind.f
  rw [hR]
  by_cases hg : plainP p = true ∧ 0 ≤ a ∧ 0 ≤ b ∧ a < (boxesP p).length ∧ b < (boxesP p).length
  · obtain ⟨hpl, h⟩ := hg
    have hpg : planG p = true := by unfold plainP at hpl; exact (Bool.and_eq_true_iff.1 hpl).1
    have hpt : pointsP p 4 = 0 := by unfold plainP at hpl; simpa using (Bool.and_eq_true_iff.1 hpl).2
    rw [hpl, decide_eq_true h]
    obtain ⟨x, rfl⟩ : ∃ x : Nat, a = (x : Int) := ⟨a.toNat, by omega⟩
    obtain ⟨y, rfl⟩ : ∃ y : Nat, b = (y : Int) := ⟨b.toNat, by omega⟩
    have hx : x < (boxesP p).length := by omega
    have hy : y < (boxesP p).length := by omega
    have hn := (planFlat hpg).few
    have val : ∀ kind (u v : Nat), u < (boxesP p).length → v < (boxesP p).length → askedP p kind (u : Int) (v : Int) = relP p kind u v := fun kind u v hu hv => by
      unfold askedP
      rw [hpl, decide_eq_true (by omega)]
      simp
    by_cases hxy : x = y
    · subst hxy
      have e : kindP p (x : Int) (x : Int) = (⟨#[]⟩, false) := by
        unfold kindP
        have i1 : relP p false x x = false := (left_irr (planFlat hpg) hx).1
        have i2 : relP p true x x = false := (left_irr (planFlat hpg) hx).2
        rw [val false x x hx hx, val true x x hx hx, i1, i2]
        rfl
      rw [e]
      refine Ev.step (Ev.const ((⟨#[]⟩ : ByteArray), false)) fun k => ?_
      show L10.spec_OrderKind.j0 (k + 1) p x x (((x : Int)) == (x : Int)) = _
      rw [beq_self_eq_true]
      exact hJ k
    · have hne : (((x : Int)) == (y : Int)) = false := by rw [beq_eq_false_iff_ne]; omega
      have hU : ∀ k, L10.spec_OrderKind.j0 (k + 1) p x y false = ((L10.spec_l5All.f k p 0).bind fun t126 => ((L10.spec_l5All.f k p 1).bind fun t129 => (if 0 ≤ (x : Int) then (if (x : Int) < (t126.length : Int) then (if 0 ≤ (y : Int) then (if (Go.bits .and .i64 (shr .i64 (rd t126 x) y) 1) = 1 then (some ((⟨#[108]⟩ : ByteArray), true)) else (if (y : Int) < (t126.length : Int) then (if (Go.bits .and .i64 (shr .i64 (rd t126 y) x) 1) = 1 then (some ((⟨#[114]⟩ : ByteArray), true)) else (if (x : Int) < (t129.length : Int) then (if (Go.bits .and .i64 (shr .i64 (rd t129 x) y) 1) = 1 then (some ((⟨#[117]⟩ : ByteArray), true)) else (some ((⟨#[100]⟩ : ByteArray), true))) else (none))) else (none))) else (none)) else (none)) else (none)))) := fun k => by
        conv => lhs; unfold L10.spec_OrderKind.j0
        rfl
      have two := kind_two (planFlat hpg) (noCross_of (by
        have : pointsP p 4 = ((allPts (clP p) (wdP p) 4 1 (p.length - 1) : Nat) : Int) := rfl
        rw [this] at hpt
        omega)) hx hy hxy
      have e : kindP p (x : Int) (y : Int) = if relP p false x y = true then (⟨#[108]⟩, true) else if relP p false y x = true then (⟨#[114]⟩, true) else if relP p true x y = true then (⟨#[117]⟩, true) else (⟨#[100]⟩, true) := by
        unfold kindP
        rw [val false x y hx hy, val false y x hy hx, val true x y hx hy, val true y x hy hx]
        by_cases c1 : relP p false x y = true
        · rw [if_pos c1, if_pos c1]
        · rw [if_neg c1, if_neg c1]
          by_cases c2 : relP p false y x = true
          · rw [if_pos c2, if_pos c2]
          · rw [if_neg c2, if_neg c2]
            by_cases c3 : relP p true x y = true
            · rw [if_pos c3, if_pos c3]
            · have c4 : relP p true y x = true := ((two.resolve_left c1).resolve_left c2).resolve_left c3
              rw [if_neg c3, if_neg c3, if_pos c4]
      rw [e]
      have hE := (all_ev p hpg false).bind (F := fun k (t126 : List Int) => ((L10.spec_l5All.f k p 1).bind fun t129 => (if 0 ≤ (x : Int) then (if (x : Int) < (t126.length : Int) then (if 0 ≤ (y : Int) then (if (Go.bits .and .i64 (shr .i64 (rd t126 x) y) 1) = 1 then (some ((⟨#[108]⟩ : ByteArray), true)) else (if (y : Int) < (t126.length : Int) then (if (Go.bits .and .i64 (shr .i64 (rd t126 y) x) 1) = 1 then (some ((⟨#[114]⟩ : ByteArray), true)) else (if (x : Int) < (t129.length : Int) then (if (Go.bits .and .i64 (shr .i64 (rd t129 x) y) 1) = 1 then (some ((⟨#[117]⟩ : ByteArray), true)) else (some ((⟨#[100]⟩ : ByteArray), true))) else (none))) else (none))) else (none)) else (none)) else (none)))) (r := if relP p false x y = true then (⟨#[108]⟩, true) else if relP p false y x = true then (⟨#[114]⟩, true) else if relP p true x y = true then (⟨#[117]⟩, true) else (⟨#[100]⟩, true)) (by
        refine (all_ev p hpg true).bind (F := fun k (t129 : List Int) => (if 0 ≤ (x : Int) then (if (x : Int) < ((setsL (relP p false) (boxesP p).length).length : Int) then (if 0 ≤ (y : Int) then (if (Go.bits .and .i64 (shr .i64 (rd (setsL (relP p false) (boxesP p).length) x) y) 1) = 1 then (some ((⟨#[108]⟩ : ByteArray), true)) else (if (y : Int) < ((setsL (relP p false) (boxesP p).length).length : Int) then (if (Go.bits .and .i64 (shr .i64 (rd (setsL (relP p false) (boxesP p).length) y) x) 1) = 1 then (some ((⟨#[114]⟩ : ByteArray), true)) else (if (x : Int) < (t129.length : Int) then (if (Go.bits .and .i64 (shr .i64 (rd t129 x) y) 1) = 1 then (some ((⟨#[117]⟩ : ByteArray), true)) else (some ((⟨#[100]⟩ : ByteArray), true))) else (none))) else (none))) else (none)) else (none)) else (none))) ?_
        rw [setsL_len, setsL_len, if_pos (by omega), if_pos (by omega), if_pos (by omega), rd_sets hx, rd_sets hy, rd_sets hx, and_shr hn _ hy, and_shr hn _ hx, and_shr hn _ hy]
        by_cases c1 : relP p false x y = true
        · rw [if_pos c1, if_pos rfl, if_pos c1]; exact Ev.const _
        · rw [if_neg c1, if_neg (by decide), if_neg c1, if_pos (by omega)]
          by_cases c2 : relP p false y x = true
          · rw [if_pos c2, if_pos rfl, if_pos c2]; exact Ev.const _
          · rw [if_neg c2, if_neg (by decide), if_neg c2, if_pos (by omega)]
            by_cases c3 : relP p true x y = true
            · rw [if_pos c3, if_pos rfl, if_pos c3]; exact Ev.const _
            · rw [if_neg c3, if_neg (by decide), if_neg c3]; exact Ev.const _)
      refine hE.step fun k => ?_
      show L10.spec_OrderKind.j0 (k + 1) p x y (((x : Int)) == (y : Int)) = _
      rw [hne]
      exact hU k
  · have hf : (plainP p && decide (0 ≤ a ∧ 0 ≤ b ∧ a < (boxesP p).length ∧ b < (boxesP p).length)) = false := by
      cases hpl : plainP p with
      | false => rfl
      | true => rw [Bool.true_and, decide_eq_false (fun h => hg ⟨hpl, h⟩)]
    have hz : ∀ kind u v, ((u = a ∧ v = b) ∨ (u = b ∧ v = a)) → askedP p kind u v = false := fun kind u v huv => by
      unfold askedP
      cases hpl : plainP p with
      | false => rfl
      | true =>
        rw [decide_eq_false (fun h => hg ⟨hpl, by rcases huv with ⟨rfl, rfl⟩ | ⟨rfl, rfl⟩ <;> omega⟩)]
        rfl
    have e : kindP p a b = (⟨#[]⟩, false) := by
      unfold kindP
      rw [hz false a b (.inl ⟨rfl, rfl⟩), hz false b a (.inr ⟨rfl, rfl⟩), hz true a b (.inl ⟨rfl, rfl⟩), hz true b a (.inr ⟨rfl, rfl⟩)]
      rfl
    rw [hf, e]
    refine Ev.step (Ev.const ((⟨#[]⟩ : ByteArray), false)) fun k => ?_
    exact hJ k
end Go.Proofs.Ytdhnjecbdclmaaa
end
section
namespace Go.Proofs.Ytdhnjecbdclmaaa
open Go.RowKit Go.Shelf Go.Proofs.YtdhnjecbdclmaaaW.PrintWords Go.Proofs.YtdhnjecbdclmaaaW.PrintMore
set_option linter.unusedVariables false
set_option linter.unusedSimpArgs false
section
variable (A : Option Addr) (cap : Nat) (p : List ByteArray) (hp : SmallP p) (a b : Int) (w : World) (hr0 : Kd.C Kd.string w A p.length p) (hc0 : p.length ≤ cap)
include hp hr0 hc0
theorem askedL_any : Calls Try.prog 124 #[.slice A p.length cap, .int .i64 a, .int .i64 b, .func (.func 125) #[] #[]] w fun e w' => e = .returned (.bool (askedP p false a b)) ∧ Below w.heap.size w w' := by
  have := asked_any false A cap p hp a b w hr0 hc0
  rwa [if_neg (by simp)] at this
theorem askedA_any : Calls Try.prog 124 #[.slice A p.length cap, .int .i64 a, .int .i64 b, .func (.func 126) #[] #[]] w fun e w' => e = .returned (.bool (askedP p true a b)) ∧ Below w.heap.size w w' := by
  have := asked_any true A cap p hp a b w hr0 hc0
  rwa [if_pos rfl] at this
set_option maxRecDepth 100000 in
theorem orderLeft_any : Calls Try.prog 55 #[.slice A p.length cap, .int .i64 a, .int .i64 b] w fun e w' => e = .returned (.bool (askedP p false a b)) ∧ Below w.heap.size w w' := by
  have H := askedL_any A cap p hp a b w hr0 hc0
  clear hr0 hp
  go_enter Try.func55, Try.ntmps55
  go_wp2_with fail
  refine H.mono ?_
  rintro e w1 ⟨rfl, hb⟩
  go_wp2_with fail
  go_ret
  exact ⟨rfl, hb⟩
set_option maxRecDepth 100000 in
theorem orderAbove_any : Calls Try.prog 57 #[.slice A p.length cap, .int .i64 a, .int .i64 b] w fun e w' => e = .returned (.bool (askedP p true a b)) ∧ Below w.heap.size w w' := by
  have H := askedA_any A cap p hp a b w hr0 hc0
  clear hr0 hp
  go_enter Try.func57, Try.ntmps57
  go_wp2_with fail
  refine H.mono ?_
  rintro e w1 ⟨rfl, hb⟩
  go_wp2_with fail
  go_ret
  exact ⟨rfl, hb⟩
set_option maxRecDepth 100000 in
set_option maxHeartbeats 4000000 in
theorem orderKind_any : Calls Try.prog 59 #[.slice A p.length cap, .int .i64 a, .int .i64 b] w fun e w' => e = .returned (.tuple #[.string (kindP p a b).1, .bool (kindP p a b).2]) ∧ Below w.heap.size w w' := by
  have H1 := Aside0.mk (askedL_any A cap p hp a b w hr0 hc0)
  have H2 := Aside0.mk (fun W (hW : Below w.heap.size w W) => askedL_any A cap p hp b a W (Kd.C_below hr0 hW) hc0)
  have H3 := Aside0.mk (fun W (hW : Below w.heap.size w W) => askedA_any A cap p hp a b W (Kd.C_below hr0 hW) hc0)
  have H4 := Aside0.mk (fun W (hW : Below w.heap.size w W) => askedA_any A cap p hp b a W (Kd.C_below hr0 hW) hc0)
  clear hr0 hp
  unfold kindP
  go_enter Try.func59, Try.ntmps59
  cases e1 : askedP p false a b with
  | true =>
    rw [e1] at H1
    have HE := Aside0.mk e1
    clear e1
    go_wp2_with fail
    refine H1.out.mono ?_
    rintro e w1 ⟨rfl, hb⟩
    go_wp2_with fail
    go_ret2
    exact ⟨rfl, hb⟩
  | false =>
    rw [e1] at H1
    have HE := Aside0.mk e1
    clear e1
    cases e2 : askedP p false b a with
    | true =>
      rw [e2] at H2
      have HE2 := Aside0.mk e2
      clear e2
      go_wp2_with fail
      refine H1.out.mono ?_
      rintro e w1 ⟨rfl, hb⟩
      have HB1 := Aside0.mk hb
      clear hb
      go_wp2_with fail
      refine (H2.out w1 HB1.out).mono ?_
      rintro e w2 ⟨rfl, hb⟩
      have HB2 := Aside0.mk (HB1.out.trans (hb.mono HB1.out.size))
      clear hb
      go_wp2_with fail
      go_ret2
      exact ⟨rfl, HB2.out⟩
    | false =>
      rw [e2] at H2
      have HE2 := Aside0.mk e2
      clear e2
      cases e3 : askedP p true a b with
      | true =>
        rw [e3] at H3
        have HE3 := Aside0.mk e3
        clear e3
        go_wp2_with fail
        refine H1.out.mono ?_
        rintro e w1 ⟨rfl, hb⟩
        have HB1 := Aside0.mk hb
        clear hb
        go_wp2_with fail
        refine (H2.out w1 HB1.out).mono ?_
        rintro e w2 ⟨rfl, hb⟩
        have HB2 := Aside0.mk (HB1.out.trans (hb.mono HB1.out.size))
        clear hb
        go_wp2_with fail
        refine (H3.out w2 HB2.out).mono ?_
        rintro e w3 ⟨rfl, hb⟩
        have HB3 := Aside0.mk (HB2.out.trans (hb.mono HB2.out.size))
        clear hb
        go_wp2_with fail
        go_ret2
        exact ⟨rfl, HB3.out⟩
      | false =>
        rw [e3] at H3
        have HE3 := Aside0.mk e3
        clear e3
        cases e4 : askedP p true b a
        all_goals
          rw [e4] at H4
          have HE4 := Aside0.mk e4
          clear e4
          go_wp2_with fail
          refine H1.out.mono ?_
          rintro e w1 ⟨rfl, hb⟩
          have HB1 := Aside0.mk hb
          clear hb
          go_wp2_with fail
          refine (H2.out w1 HB1.out).mono ?_
          rintro e w2 ⟨rfl, hb⟩
          have HB2 := Aside0.mk (HB1.out.trans (hb.mono HB1.out.size))
          clear hb
          go_wp2_with fail
          refine (H3.out w2 HB2.out).mono ?_
          rintro e w3 ⟨rfl, hb⟩
          have HB3 := Aside0.mk (HB2.out.trans (hb.mono HB2.out.size))
          clear hb
          go_wp2_with fail
          refine (H4.out w3 HB3.out).mono ?_
          rintro e w4 ⟨rfl, hb⟩
          have HB4 := Aside0.mk (HB3.out.trans (hb.mono HB3.out.size))
          clear hb
          go_wp2_with fail
          go_ret2
          exact ⟨rfl, HB4.out⟩
end
def impl_OrderLeft.f (l0 : List ByteArray) (a1 : Int) (a2 : Int) : Option Bool := if SmallP l0 then some (askedP l0 false a1 a2) else none
theorem impl_OrderLeft.calls (A0 : Option Addr) (c0 : Nat) (l0 : List ByteArray) (a1 : Int) (a2 : Int) (r : Bool) (w : World) (hr0 : Kd.C Kd.string w A0 l0.length l0) (hc0 : l0.length ≤ c0) (h : impl_OrderLeft.f l0 a1 a2 = some r) :
    Calls Try.prog 55 #[.slice A0 l0.length c0, .int .i64 a1, .int .i64 a2] w fun e w' => e = .returned (.bool r) ∧ Below w.heap.size w w' := by
  unfold impl_OrderLeft.f at h
  split at h
  · rename_i hb
    injection h with h
    subst h
    exact orderLeft_any A0 c0 l0 hb a1 a2 w hr0 hc0
  · cases h
def spec_OrderLeft.f (l0 : List ByteArray) (a1 : Int) (a2 : Int) : Option Bool := if SmallP l0 then some (askedP l0 false a1 a2) else none
theorem spec_OrderLeft.calls (A0 : Option Addr) (c0 : Nat) (l0 : List ByteArray) (a1 : Int) (a2 : Int) (r : Bool) (w : World) (hr0 : Kd.C Kd.string w A0 l0.length l0) (hc0 : l0.length ≤ c0) (h : spec_OrderLeft.f l0 a1 a2 = some r) :
    Calls Try.prog 54 #[.slice A0 l0.length c0, .int .i64 a1, .int .i64 a2] w fun e w' => e = .returned (.bool r) ∧ Below w.heap.size w w' := by
  unfold spec_OrderLeft.f at h
  split at h
  · rename_i hb
    injection h with h
    obtain ⟨k, hk⟩ := (left_ev l0 hb a1 a2).ex
    exact L10.spec_OrderLeft.calls k A0 c0 l0 a1 a2 r w hr0 hc0 (by rw [hk, h])
  · cases h
def impl_OrderAbove.f (l0 : List ByteArray) (a1 : Int) (a2 : Int) : Option Bool := if SmallP l0 then some (askedP l0 true a1 a2) else none
theorem impl_OrderAbove.calls (A0 : Option Addr) (c0 : Nat) (l0 : List ByteArray) (a1 : Int) (a2 : Int) (r : Bool) (w : World) (hr0 : Kd.C Kd.string w A0 l0.length l0) (hc0 : l0.length ≤ c0) (h : impl_OrderAbove.f l0 a1 a2 = some r) :
    Calls Try.prog 57 #[.slice A0 l0.length c0, .int .i64 a1, .int .i64 a2] w fun e w' => e = .returned (.bool r) ∧ Below w.heap.size w w' := by
  unfold impl_OrderAbove.f at h
  split at h
  · rename_i hb
    injection h with h
    subst h
    exact orderAbove_any A0 c0 l0 hb a1 a2 w hr0 hc0
  · cases h
def spec_OrderAbove.f (l0 : List ByteArray) (a1 : Int) (a2 : Int) : Option Bool := if SmallP l0 then some (askedP l0 true a1 a2) else none
theorem spec_OrderAbove.calls (A0 : Option Addr) (c0 : Nat) (l0 : List ByteArray) (a1 : Int) (a2 : Int) (r : Bool) (w : World) (hr0 : Kd.C Kd.string w A0 l0.length l0) (hc0 : l0.length ≤ c0) (h : spec_OrderAbove.f l0 a1 a2 = some r) :
    Calls Try.prog 56 #[.slice A0 l0.length c0, .int .i64 a1, .int .i64 a2] w fun e w' => e = .returned (.bool r) ∧ Below w.heap.size w w' := by
  unfold spec_OrderAbove.f at h
  split at h
  · rename_i hb
    injection h with h
    obtain ⟨k, hk⟩ := (above_ev l0 hb a1 a2).ex
    exact L10.spec_OrderAbove.calls k A0 c0 l0 a1 a2 r w hr0 hc0 (by rw [hk, h])
  · cases h
def impl_OrderKind.f (l0 : List ByteArray) (a1 : Int) (a2 : Int) : Option (ByteArray × Bool) := if SmallP l0 then some (kindP l0 a1 a2) else none
theorem impl_OrderKind.calls (A0 : Option Addr) (c0 : Nat) (l0 : List ByteArray) (a1 : Int) (a2 : Int) (r1 : ByteArray) (r2 : Bool) (w : World) (hr0 : Kd.C Kd.string w A0 l0.length l0) (hc0 : l0.length ≤ c0) (h : impl_OrderKind.f l0 a1 a2 = some (r1, r2)) :
    Calls Try.prog 59 #[.slice A0 l0.length c0, .int .i64 a1, .int .i64 a2] w fun e w' => e = .returned (.tuple #[.string r1, .bool r2]) ∧ Below w.heap.size w w' := by
  unfold impl_OrderKind.f at h
  split at h
  · rename_i hb
    injection h with h
    have := orderKind_any A0 c0 l0 hb a1 a2 w hr0 hc0
    rw [h] at this
    exact this
  · cases h
def spec_OrderKind.f (l0 : List ByteArray) (a1 : Int) (a2 : Int) : Option (ByteArray × Bool) := if SmallP l0 then some (kindP l0 a1 a2) else none
theorem spec_OrderKind.calls (A0 : Option Addr) (c0 : Nat) (l0 : List ByteArray) (a1 : Int) (a2 : Int) (r1 : ByteArray) (r2 : Bool) (w : World) (hr0 : Kd.C Kd.string w A0 l0.length l0) (hc0 : l0.length ≤ c0) (h : spec_OrderKind.f l0 a1 a2 = some (r1, r2)) :
    Calls Try.prog 58 #[.slice A0 l0.length c0, .int .i64 a1, .int .i64 a2] w fun e w' => e = .returned (.tuple #[.string r1, .bool r2]) ∧ Below w.heap.size w w' := by
  unfold spec_OrderKind.f at h
  split at h
  · rename_i hb
    injection h with h
    obtain ⟨k, hk⟩ := (kind_ev l0 hb a1 a2).ex
    exact L10.spec_OrderKind.calls k A0 c0 l0 a1 a2 r1 r2 w hr0 hc0 (by rw [hk, h])
  · cases h
end Go.Proofs.Ytdhnjecbdclmaaa
end
