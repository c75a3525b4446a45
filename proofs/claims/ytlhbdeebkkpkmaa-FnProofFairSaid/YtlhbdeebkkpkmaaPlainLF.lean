/- What proofs about permutations come to, in plain Lean; the program's PermLoose and PermFair: contracts. Conditions: lists of at most 1000000000 numbers. -/
import Derived.Test.YtlhbdeebkkpkmaaFair
namespace Go.Proofs.Ytlhbdeebkkpkmaa
open Go.RowKit Go.Shelf Go.Proofs.YtlhbdeebkkpkmaaW.PrintWords Go.Proofs.YtlhbdeebkkpkmaaW.PrintMore
set_option linter.unusedVariables false

theorem fours_mem {n a b c d : Nat} (h1 : a < b) (h2 : b < c) (h3 : c < d) (h4 : d < n) : (a, b, c, d) ∈ foursA n n := by
  unfold foursA foursB foursC foursD
  simp only [List.mem_flatMap, List.mem_map, List.mem_range'_1, Prod.mk.injEq]
  exact ⟨a, by omega, b, by omega, c, by omega, d, by omega, rfl, rfl, rfl, rfl⟩
theorem fours_lt {n : Nat} {q : F4} (hq : q ∈ foursA n n) : q.1 < q.2.1 ∧ q.2.1 < q.2.2.1 ∧ q.2.2.1 < q.2.2.2 ∧ q.2.2.2 < n := by
  obtain ⟨a, b, c, d⟩ := q
  unfold foursA foursB foursC foursD at hq
  simp only [List.mem_flatMap, List.mem_map, List.mem_range'_1, Prod.mk.injEq] at hq
  obtain ⟨a', ha, b', hb, c', hc, d', hd, rfl, rfl, rfl, rfl⟩ := hq
  dsimp only
  omega
theorem loose_false {p : List Int} {a b c d : Int} (h0 : 0 ≤ a) (h1 : a < b) (h2 : b < c) (h3 : c < d) (h4 : d < p.length) (ht : tightB (rd p a) (rd p b) (rd p c) (rd p d) = true) : looseB p = false := by
  unfold looseB
  rw [List.all_eq_false]
  refine ⟨(a.toNat, b.toNat, c.toNat, d.toNat), fours_mem (by omega) (by omega) (by omega) (by omega), ?_⟩
  unfold tightOf
  dsimp only
  rw [Int.toNat_of_nonneg h0, Int.toNat_of_nonneg (by omega), Int.toNat_of_nonneg (by omega), Int.toNat_of_nonneg (by omega), ht]
  decide
theorem fair_false {p : List Int} {i j k : Int} (h0 : 0 ≤ i) (h1 : i < j) (h2 : j + 1 < k) (h4 : k < p.length) (ht : unfairB (rd p i) (rd p j) (rd p (j + 1)) (rd p k) = true) : fairB p = false := by
  unfold fairB
  rw [List.all_eq_false]
  refine ⟨(i.toNat, j.toNat, j.toNat + 1, k.toNat), fours_mem (by omega) (by omega) (by omega) (by omega), ?_⟩
  unfold badOf
  dsimp only
  rw [show ((j.toNat + 1 : Nat) : Int) = j + 1 by omega, Int.toNat_of_nonneg h0, Int.toNat_of_nonneg (by omega), Int.toNat_of_nonneg (by omega), ht]
  simp
theorem looseIs_shows {p : List Int} {s : ByteArray} (h : looseIsB p s = true) : permInB p = true ∧ looseB p = false := by
  unfold looseIsB fourB at h
  simp only [Bool.and_eq_true, decide_eq_true_eq] at h
  obtain ⟨_, hp, ⟨h1, h2, h3, h4, h5⟩, ht⟩ := h
  exact ⟨hp, loose_false h4 h1 h2 h3 h5 ht⟩
theorem fairIs_shows {p : List Int} {s : ByteArray} (h : fairIsB p s = true) : permInB p = true ∧ fairB p = false ∧ looseB p = false := by
  unfold fairIsB breaksB at h
  simp only [Bool.and_eq_true, decide_eq_true_eq] at h
  obtain ⟨_, hp, ⟨h1, h2, h3, h4⟩, ht⟩ := h
  exact ⟨hp, fair_false h1 h2 h3 h4 ht, loose_false h1 h2 (by omega) h3 h4 ht⟩

theorem bt_lit (l : List UInt8) (i : Nat) (x : UInt8) (h : l[i]? = some x) : bt ⟨l.toArray⟩ (i : Int) = (x.toNat : Int) := by
  obtain ⟨hl, e⟩ := List.getElem?_eq_some_iff.1 h
  unfold bt
  rw [dif_pos (show ((i : Int)).toNat < (⟨l.toArray⟩ : ByteArray).size by simpa [ByteArray.size] using hl)]
  have e2 : (⟨l.toArray⟩ : ByteArray)[((i : Int)).toNat]'(by simpa [ByteArray.size] using hl) = x := by
    show l.toArray[((i : Int)).toNat]'(by simpa using hl) = x
    simp [e]
  rw [e2]
theorem words_four (a b c d : Int) : wordsB wFour [a, b, c, d] = ⟨([102, 111, 117, 114, 32, dbyte a, 32, dbyte b, 32, dbyte c, 32, dbyte d] : List UInt8).toArray⟩ := by
  apply ByteArray.ext
  rfl
theorem words_break (a b c : Int) : wordsB wBreak [a, b, c] = ⟨([98, 114, 101, 97, 107, 32, dbyte a, 32, dbyte b, 32, dbyte c] : List UInt8).toArray⟩ := by
  apply ByteArray.ext
  rfl
theorem digB_mk {l : List UInt8} {o i : Nat} {x : Int} (hx : 0 ≤ x ∧ x ≤ 9) (h1 : l[o + 2 * i]? = some 32) (h2 : l[o + 2 * i + 1]? = some (dbyte x)) : digB ⟨l.toArray⟩ o i = true ∧ dgt ⟨l.toArray⟩ o i = x := by
  have e1 := bt_lit l _ _ h1
  have e2 := bt_lit l _ _ h2
  rw [dbyte_val hx] at e2
  have c1 : ((o : Int) + 2 * (i : Int)) = ((o + 2 * i : Nat) : Int) := by omega
  have c2 : ((o : Int) + 2 * (i : Int) + 1) = ((o + 2 * i + 1 : Nat) : Int) := by omega
  unfold dgt
  rw [digB_iff, c2, c1, e1, e2]
  refine ⟨⟨rfl, by omega, by omega⟩, by omega⟩
theorem words4_ok (a b c d : Int) (ha : 0 ≤ a ∧ a ≤ 9) (hb : 0 ≤ b ∧ b ≤ 9) (hc : 0 ≤ c ∧ c ≤ 9) (hd : 0 ≤ d ∧ d ≤ 9) :
    readOK (wordsB wFour [a, b, c, d]) wFour 4 = true ∧ dgt (wordsB wFour [a, b, c, d]) 4 0 = a ∧ dgt (wordsB wFour [a, b, c, d]) 4 1 = b ∧ dgt (wordsB wFour [a, b, c, d]) 4 2 = c ∧ dgt (wordsB wFour [a, b, c, d]) 4 3 = d := by
  rw [words_four]
  have g0 := digB_mk (l := [102, 111, 117, 114, 32, dbyte a, 32, dbyte b, 32, dbyte c, 32, dbyte d]) (o := 4) (i := 0) ha rfl rfl
  have g1 := digB_mk (l := [102, 111, 117, 114, 32, dbyte a, 32, dbyte b, 32, dbyte c, 32, dbyte d]) (o := 4) (i := 1) hb rfl rfl
  have g2 := digB_mk (l := [102, 111, 117, 114, 32, dbyte a, 32, dbyte b, 32, dbyte c, 32, dbyte d]) (o := 4) (i := 2) hc rfl rfl
  have g3 := digB_mk (l := [102, 111, 117, 114, 32, dbyte a, 32, dbyte b, 32, dbyte c, 32, dbyte d]) (o := 4) (i := 3) hd rfl rfl
  refine ⟨?_, g0.2, g1.2, g2.2, g3.2⟩
  unfold readOK
  rw [show wFour.size = 4 from rfl, Bool.and_eq_true, Bool.and_eq_true]
  refine ⟨⟨rfl, ?_⟩, ?_⟩
  · rw [show ((⟨([102, 111, 117, 114, 32, dbyte a, 32, dbyte b, 32, dbyte c, 32, dbyte d] : List UInt8).toArray⟩ : ByteArray).extract 0 4) = wFour by apply ByteArray.ext; simp [wFour]]
    exact beq_self_eq_true _
  rw [List.all_eq_true]
  intro i hi
  have : i < 4 := List.mem_range.1 hi
  match i, this with
  | 0, _ => exact g0.1
  | 1, _ => exact g1.1
  | 2, _ => exact g2.1
  | 3, _ => exact g3.1
theorem words3_ok (a b c : Int) (ha : 0 ≤ a ∧ a ≤ 9) (hb : 0 ≤ b ∧ b ≤ 9) (hc : 0 ≤ c ∧ c ≤ 9) :
    readOK (wordsB wBreak [a, b, c]) wBreak 3 = true ∧ dgt (wordsB wBreak [a, b, c]) 5 0 = a ∧ dgt (wordsB wBreak [a, b, c]) 5 1 = b ∧ dgt (wordsB wBreak [a, b, c]) 5 2 = c := by
  rw [words_break]
  have g0 := digB_mk (l := [98, 114, 101, 97, 107, 32, dbyte a, 32, dbyte b, 32, dbyte c]) (o := 5) (i := 0) ha rfl rfl
  have g1 := digB_mk (l := [98, 114, 101, 97, 107, 32, dbyte a, 32, dbyte b, 32, dbyte c]) (o := 5) (i := 1) hb rfl rfl
  have g2 := digB_mk (l := [98, 114, 101, 97, 107, 32, dbyte a, 32, dbyte b, 32, dbyte c]) (o := 5) (i := 2) hc rfl rfl
  refine ⟨?_, g0.2, g1.2, g2.2⟩
  unfold readOK
  rw [show wBreak.size = 5 from rfl, Bool.and_eq_true, Bool.and_eq_true]
  refine ⟨⟨rfl, ?_⟩, ?_⟩
  · rw [show ((⟨([98, 114, 101, 97, 107, 32, dbyte a, 32, dbyte b, 32, dbyte c] : List UInt8).toArray⟩ : ByteArray).extract 0 5) = wBreak by apply ByteArray.ext; simp [wBreak]]
    exact beq_self_eq_true _
  rw [List.all_eq_true]
  intro i hi
  have : i < 3 := List.mem_range.1 hi
  match i, this with
  | 0, _ => exact g0.1
  | 1, _ => exact g1.1
  | 2, _ => exact g2.1

theorem looseP_true {p : List Int} (h : (looseP p).2 = true) : looseIsB p (looseP p).1 = true := by
  unfold looseP at h ⊢
  cases hp : permInB p with
  | false => rw [hp] at h; simp at h
  | true =>
    rw [hp, if_pos rfl] at h
    rw [if_pos rfl]
    cases hf : looseFind p with
    | none => rw [hf] at h; simp at h
    | some q =>
      dsimp only
      unfold looseFind at hf
      have hq := List.mem_of_find?_eq_some hf
      have ht := List.find?_some hf
      have hs := four_small hp hq
      have hl := fours_lt hq
      obtain ⟨a, b, c, d⟩ := q
      dsimp only at hs hl
      have w4 := words4_ok a b c d (by omega) (by omega) (by omega) (by omega)
      unfold looseIsB fourB
      show (readOK (wordsB wFour [(a : Int), b, c, d]) wFour 4 && _) = true
      unfold f4list
      dsimp only
      rw [w4.1, w4.2.1, w4.2.2.1, w4.2.2.2.1, w4.2.2.2.2, hp, Bool.true_and, Bool.true_and, Bool.and_eq_true, decide_eq_true_eq]
      exact ⟨by omega, ht⟩
theorem looseP_false {p : List Int} (hp : permInB p = true) (h : (looseP p).2 = false) : looseB p = true := by
  unfold looseP at h
  rw [hp, if_pos rfl] at h
  cases hf : looseFind p with
  | some q => rw [hf] at h; simp at h
  | none =>
    unfold looseFind at hf
    rw [List.find?_eq_none] at hf
    unfold looseB
    rw [List.all_eq_true]
    intro q hq
    have := hf q hq
    simp at this
    rw [this]; rfl
theorem trip_mem {n : Nat} {t : T3} (h : t ∈ tripA n n) : t.2.1 < t.1 ∧ t.1 + 1 < t.2.2 ∧ t.2.2 < n := by
  obtain ⟨j, i, k⟩ := t
  unfold tripA tripB tripC at h
  simp only [List.mem_flatMap, List.mem_map, List.mem_range'_1, Prod.mk.injEq] at h
  obtain ⟨j', hj, i', hi, k', hk, rfl, rfl, rfl⟩ := h
  dsimp only
  omega
theorem trip_in {n i j k : Nat} (h1 : i < j) (h2 : j + 1 < k) (h3 : k < n) : (j, i, k) ∈ tripA n n := by
  unfold tripA tripB tripC
  simp only [List.mem_flatMap, List.mem_map, List.mem_range'_1, Prod.mk.injEq]
  exact ⟨j, by omega, i, by omega, k, by omega, rfl, rfl, rfl⟩
theorem fairP_true {p : List Int} (h : (fairP p).2 = true) : fairIsB p (fairP p).1 = true := by
  unfold fairP at h ⊢
  cases hp : permInB p with
  | false => rw [hp] at h; simp at h
  | true =>
    rw [hp, if_pos rfl] at h
    rw [if_pos rfl]
    have h7 := permIn_len hp
    cases hf : fairFind p with
    | none => rw [hf] at h; simp at h
    | some t =>
      dsimp only
      unfold fairFind at hf
      have hl := trip_mem (List.mem_of_find?_eq_some hf)
      have ht := List.find?_some hf
      obtain ⟨j, i, k⟩ := t
      dsimp only at hl
      have w3 := words3_ok i j k (by omega) (by omega) (by omega)
      unfold fairIsB breaksB
      show (readOK (wordsB wBreak [(i : Int), j, k]) wBreak 3 && _) = true
      unfold t3text
      dsimp only
      rw [w3.1, w3.2.1, w3.2.2.1, w3.2.2.2, hp, Bool.true_and, Bool.true_and, Bool.and_eq_true, decide_eq_true_eq]
      exact ⟨by omega, ht⟩
theorem fairP_false {p : List Int} (hp : permInB p = true) (h : (fairP p).2 = false) : fairB p = true := by
  unfold fairP at h
  rw [hp, if_pos rfl] at h
  cases hf : fairFind p with
  | some q => rw [hf] at h; simp at h
  | none =>
    unfold fairFind at hf
    rw [List.find?_eq_none] at hf
    unfold fairB
    rw [List.all_eq_true]
    intro q hq
    have hl := fours_lt hq
    obtain ⟨a, b, c, d⟩ := q
    dsimp only at hl
    by_cases hbc : b + 1 = c
    · subst hbc
      have := hf (b, a, d) (trip_in (by omega) (by omega) (by omega))
      unfold fairOf at this
      simp at this
      unfold badOf
      simp [this]
    · unfold badOf
      simp [hbc]

theorem permLoose_any (A : Option Addr) (c : Nat) (p : List Int) (hp : p.length ≤ 1000000000) (w : World) (hr : Kd.C (Kd.int .i64) w A p.length p) (hc : p.length ≤ c) :
    Calls Try.prog 21 #[.slice A p.length c] w fun e w' => e = .returned (.bool (permInB p && looseB p)) ∧ Below w.heap.size w w' := by
  have HI := permIn_any A c p hp w hr hc
  have HL : ∀ wx, Below w.heap.size w wx → Calls Try.prog 44 #[.slice A p.length c] wx fun e w' => e = .returned (.bool (looseB p)) ∧ Below wx.heap.size wx w' := fun wx hb => loose_any A c p hp wx (Kd.C_below hr hb)
  have HL' := Aside0.mk HL
  clear HL hr hc hp
  cases hb : permInB p with
  | false =>
    rw [hb] at HI
    go_enter Try.func21, Try.ntmps21
    go_wp2_with fail
    refine HI.mono ?_
    rintro e w1 ⟨rfl, h1⟩
    have H1 := Aside0.mk h1.below
    clear h1
    go_wp2_with fail
    go_ret
    exact ⟨rfl, H1.out⟩
  | true =>
    rw [hb] at HI
    go_enter Try.func21, Try.ntmps21
    go_wp2_with fail
    refine HI.mono ?_
    rintro e w1 ⟨rfl, h1⟩
    have H1 := Aside0.mk h1.below
    clear h1
    go_wp2_with fail
    refine (HL'.out _ H1.out).mono ?_
    rintro e w2 ⟨rfl, h2⟩
    have H2 := Aside0.mk h2
    clear h2
    go_wp2_with fail
    go_ret
    exact ⟨by rw [Bool.true_and]; rfl, H1.out.trans (H2.out.mono H1.out.size)⟩
theorem permFair_any (A : Option Addr) (c : Nat) (p : List Int) (hp : p.length ≤ 1000000000) (w : World) (hr : Kd.C (Kd.int .i64) w A p.length p) (hc : p.length ≤ c) :
    Calls Try.prog 26 #[.slice A p.length c] w fun e w' => e = .returned (.bool (permInB p && fairB p)) ∧ Below w.heap.size w w' := by
  have HI := permIn_any A c p hp w hr hc
  have HL : ∀ wx, Below w.heap.size w wx → Calls Try.prog 48 #[.slice A p.length c] wx fun e w' => e = .returned (.bool (fairB p)) ∧ Below wx.heap.size wx w' := fun wx hb => fair_any A c p hp wx (Kd.C_below hr hb)
  have HL' := Aside0.mk HL
  clear HL hr hc hp
  cases hb : permInB p with
  | false =>
    rw [hb] at HI
    go_enter Try.func26, Try.ntmps26
    go_wp2_with fail
    refine HI.mono ?_
    rintro e w1 ⟨rfl, h1⟩
    have H1 := Aside0.mk h1.below
    clear h1
    go_wp2_with fail
    go_ret
    exact ⟨rfl, H1.out⟩
  | true =>
    rw [hb] at HI
    go_enter Try.func26, Try.ntmps26
    go_wp2_with fail
    refine HI.mono ?_
    rintro e w1 ⟨rfl, h1⟩
    have H1 := Aside0.mk h1.below
    clear h1
    go_wp2_with fail
    refine (HL'.out _ H1.out).mono ?_
    rintro e w2 ⟨rfl, h2⟩
    have H2 := Aside0.mk h2
    clear h2
    go_wp2_with fail
    go_ret
    exact ⟨by rw [Bool.true_and]; rfl, H1.out.trans (H2.out.mono H1.out.size)⟩
end Go.Proofs.Ytlhbdeebkkpkmaa
