/- The program's folded at texts, and text. -/
import Derived.Test.YtdhnjecbdclmaaaKIFirst
namespace Go.Proofs.Ytdhnjecbdclmaaa
open Go.RowKit Go.Shelf Go.Proofs.YtdhnjecbdclmaaaW.PrintWords Go.Proofs.YtdhnjecbdclmaaaW.PrintMore
set_option linter.unusedVariables false
abbrev Rc := Nat × Nat × Nat × Nat
def oneR (r c ph pw : Nat) (x : Bool × Nat) : Rc := if x.1 then (r, c, x.2 - r, pw) else (r, c, ph, x.2 - c)
def twoR (r c ph pw : Nat) (x : Bool × Nat) : Rc := if x.1 then (x.2, c, ph - (x.2 - r), pw) else (r, x.2, ph, pw - (x.2 - c))
def boxR (R : Rc) : Box := natB R.1 R.2.1 R.2.2.1 R.2.2.2
theorem oneB_R (r c ph pw : Nat) (x : Bool × Nat) : oneB r c ph pw x = boxR (oneR r c ph pw x) := by
  unfold oneB oneR boxR
  split <;> rfl
theorem twoB_R (r c ph pw : Nat) (x : Bool × Nat) : twoB r c ph pw x = boxR (twoR r c ph pw x) := by
  unfold twoB twoR boxR
  split <;> rfl
theorem linesL_in {cl : Nat → Nat → Int} {level : Bool} {lo from_ long k : Nat} {x : Bool × Nat} (h : x ∈ linesL cl level lo from_ long k) : x.1 = level ∧ lo + 1 ≤ x.2 ∧ x.2 < lo + 1 + k ∧ throughL cl level x.2 from_ long = true := by
  induction k with
  | zero => cases h
  | succ k ih =>
    unfold linesL at h
    rcases List.mem_append.1 h with h | h
    · obtain ⟨a, b, c, d⟩ := ih h
      exact ⟨a, b, by omega, d⟩
    · split at h
      · rename_i ht
        obtain rfl : x = (level, lo + 1 + k) := by simpa using h
        exact ⟨rfl, by simp only; omega, by simp only; omega, ht⟩
      · cases h
theorem cutsL_in {cl : Nat → Nat → Int} {r c ph pw : Nat} {x : Bool × Nat} (h : x ∈ cutsL cl r c ph pw) : if x.1 then r + 1 ≤ x.2 ∧ x.2 < r + ph ∧ throughL cl true x.2 c pw = true else c + 1 ≤ x.2 ∧ x.2 < c + pw ∧ throughL cl false x.2 r ph = true := by
  rcases List.mem_append.1 h with h | h
  · obtain ⟨a, b, d, e⟩ := linesL_in h
    rw [a]; simp only [Bool.false_eq_true, if_false]; exact ⟨b, by omega, e⟩
  · obtain ⟨a, b, d, e⟩ := linesL_in h
    rw [a]; simp only [if_true]; exact ⟨b, by omega, e⟩
structure Within (r c ph pw : Nat) (R : Rc) : Prop where
  row : r ≤ R.1 ∧ R.1 + R.2.2.1 ≤ r + ph
  col : c ≤ R.2.1 ∧ R.2.1 + R.2.2.2 ≤ c + pw
  some : 1 ≤ ph → 1 ≤ pw → 1 ≤ R.2.2.1 ∧ 1 ≤ R.2.2.2
  less : R.2.2.1 + R.2.2.2 < ph + pw
theorem one_in {cl : Nat → Nat → Int} {r c ph pw : Nat} {x : Bool × Nat} (h : x ∈ cutsL cl r c ph pw) : Within r c ph pw (oneR r c ph pw x) := by
  have := cutsL_in h
  unfold oneR
  split at this
  · rename_i e; rw [if_pos e]; exact ⟨⟨by simp only; omega, by simp only; omega⟩, ⟨by simp only; omega, by simp only; omega⟩, fun _ _ => ⟨by simp only; omega, by simp only; omega⟩, by simp only; omega⟩
  · rename_i e; rw [if_neg e]; exact ⟨⟨by simp only; omega, by simp only; omega⟩, ⟨by simp only; omega, by simp only; omega⟩, fun _ _ => ⟨by simp only; omega, by simp only; omega⟩, by simp only; omega⟩
theorem two_in {cl : Nat → Nat → Int} {r c ph pw : Nat} {x : Bool × Nat} (h : x ∈ cutsL cl r c ph pw) : Within r c ph pw (twoR r c ph pw x) := by
  have := cutsL_in h
  unfold twoR
  split at this
  · rename_i e; rw [if_pos e]; exact ⟨⟨by simp only; omega, by simp only; omega⟩, ⟨by simp only; omega, by simp only; omega⟩, fun _ _ => ⟨by simp only; omega, by simp only; omega⟩, by simp only; omega⟩
  · rename_i e; rw [if_neg e]; exact ⟨⟨by simp only; omega, by simp only; omega⟩, ⟨by simp only; omega, by simp only; omega⟩, fun _ _ => ⟨by simp only; omega, by simp only; omega⟩, by simp only; omega⟩
theorem head_in {cl : Nat → Nat → Int} {r c ph pw : Nat} {x : Bool × Nat} (h : (cutsL cl r c ph pw).head? = some x) : x ∈ cutsL cl r c ph pw := List.mem_of_mem_head? (by rw [h]; rfl)
def letterL (x : Bool × Nat) : UInt8 := if x.1 then 104 else 118
def capL (l : List Int) : UInt8 := UInt8.ofNat (65 + (l.headD 0).toNat)
def textL (cl : Nat → Nat → Int) (boxes : List Box) : Nat → Rc → Option (List UInt8)
  | 0, _ => none
  | n + 1, (r, c, ph, pw) =>
    if (listL boxes (natB r c ph pw) boxes.length).length = 1 then some [capL (listL boxes (natB r c ph pw) boxes.length)]
    else match (cutsL cl r c ph pw).head? with
      | none => none
      | some x => match textL cl boxes n (oneR r c ph pw x), textL cl boxes n (twoR r c ph pw x) with
        | some a, some b => some (letterL x :: (a ++ b))
        | _, _ => none
theorem textL_len (cl : Nat → Nat → Int) (boxes : List Box) : ∀ (n : Nat) (R : Rc) (s : List UInt8), textL cl boxes n R = some s → s.length + 1 ≤ 2 ^ n := by
  intro n
  induction n with
  | zero => intro R s h; cases h
  | succ n ih =>
    rintro ⟨r, c, ph, pw⟩ s h
    have h2 : 1 ≤ 2 ^ n := Nat.one_le_two_pow
    unfold textL at h
    split at h
    · obtain rfl := Option.some.inj h
      rw [Nat.pow_succ]; simp; omega
    · split at h
      · cases h
      · split at h
        · rename_i ha hb
          obtain rfl := Option.some.inj h
          have := ih _ _ ha
          have := ih _ _ hb
          rw [Nat.pow_succ]
          simp only [List.length_cons, List.length_append]; omega
        · cases h
theorem ret_str {a b : ByteArray} (h : a = b) : Ending.returned (.string a) = .returned (.string b) := by rw [h]
theorem letter_any (fb r c ph pw : Nat) (x : Bool × Nat) (w : World) :
    Calls Try.prog 163 #[piecesV fb r c ph pw x] w fun e w' => e = .returned (.string ⟨#[letterL x]⟩) ∧ Below w.heap.size w w' := by
  obtain ⟨b, k⟩ := x
  unfold piecesV letterL
  cases b with
  | true =>
    dsimp only
    go_enter Try.func163, Try.ntmps163
    go_wp2
    go_ret
    exact ⟨rfl, (Below.refl _ _).alloc (Nat.le_refl _) _⟩
  | false =>
    dsimp only
    go_enter Try.func163, Try.ntmps163
    go_wp2
    go_ret
    exact ⟨rfl, (Below.refl _ _).alloc (Nat.le_refl _) _⟩
set_option maxHeartbeats 2000000 in
theorem joint_any (fb r c ph pw : Nat) (x : Bool × Nat) (a b : List UInt8) (ha : a.length ≤ 10000) (hb : b.length ≤ 10000) (w : World) :
    Calls Try.prog 162 #[piecesV fb r c ph pw x, .string ⟨a.toArray⟩, .string ⟨b.toArray⟩] w fun e w' => e = .returned (.string ⟨(letterL x :: (a ++ b)).toArray⟩) ∧ Below w.heap.size w w' := by
  have HL := Aside0.mk (letter_any fb r c ph pw x)
  unfold piecesV at HL ⊢
  go_enter Try.func162, Try.ntmps162
  go_wp2_with fail
  refine (HL.out _).mono ?_
  rintro e w1 ⟨rfl, hb1⟩
  have HB := Aside0.mk hb1
  clear hb1
  go_wp2_with fail
  go_ret
  have hs : (({ data := #[letterL x] } : ByteArray) ++ { data := a.toArray } ++ { data := b.toArray }) = ⟨(letterL x :: (a ++ b)).toArray⟩ := by
    apply ByteArray.ext
    simp [ByteArray.data_append]
  exact ⟨ret_str hs, ((Below.refl _ _).alloc (Nat.le_refl _) _).trans (HB.out.mono (by simp))⟩
theorem encode_cap (k : Nat) (hk : k ≤ 20) : Utf8.encode (65 + (k : Int)) = ⟨#[capL [(k : Int)]]⟩ := by
  have h : k = 0 ∨ k = 1 ∨ k = 2 ∨ k = 3 ∨ k = 4 ∨ k = 5 ∨ k = 6 ∨ k = 7 ∨ k = 8 ∨ k = 9 ∨ k = 10 ∨ k = 11 ∨ k = 12 ∨ k = 13 ∨ k = 14 ∨ k = 15 ∨ k = 16 ∨ k = 17 ∨ k = 18 ∨ k = 19 ∨ k = 20 := by omega
  rcases h with rfl | rfl | rfl | rfl | rfl | rfl | rfl | rfl | rfl | rfl | rfl | rfl | rfl | rfl | rfl | rfl | rfl | rfl | rfl | rfl | rfl
  all_goals rfl
theorem capital_any (k : Nat) (hk : k ≤ 20) (w : World) :
    Calls Try.prog 160 #[.int .i64 (k : Int)] w fun e w' => e = .returned (.string ⟨#[capL [(k : Int)]]⟩) ∧ Below w.heap.size w w' := by
  go_enter Try.func160, Try.ntmps160
  go_wp2
  go_ret
  exact ⟨ret_str (encode_cap k hk), Below.refl _ _⟩
def textV (o : Option (List UInt8)) : Value := .tuple #[.string ⟨(o.getD []).toArray⟩, .bool o.isSome]
theorem textL_one {cl : Nat → Nat → Int} {boxes : List Box} {n r c ph pw : Nat} (h : (listL boxes (natB r c ph pw) boxes.length).length = 1) : textL cl boxes (n + 1) (r, c, ph, pw) = some [capL (listL boxes (natB r c ph pw) boxes.length)] := by
  unfold textL; rw [if_pos h]
theorem textL_none {cl : Nat → Nat → Int} {boxes : List Box} {n r c ph pw : Nat} (h : (listL boxes (natB r c ph pw) boxes.length).length ≠ 1) (hx : (cutsL cl r c ph pw).head? = none) : textL cl boxes (n + 1) (r, c, ph, pw) = none := by
  unfold textL; rw [if_neg h, hx]
theorem textL_some {cl : Nat → Nat → Int} {boxes : List Box} {n r c ph pw : Nat} (h : (listL boxes (natB r c ph pw) boxes.length).length ≠ 1) {x : Bool × Nat} (hx : (cutsL cl r c ph pw).head? = some x) : textL cl boxes (n + 1) (r, c, ph, pw) = match textL cl boxes n (oneR r c ph pw x), textL cl boxes n (twoR r c ph pw x) with
        | some a, some b => some (letterL x :: (a ++ b))
        | _, _ => none := by
  conv => lhs; unfold textL
  rw [if_neg h, hx]
theorem listL_mem {boxes : List Box} {b : Box} {n : Nat} {k : Int} (h : k ∈ listL boxes b n) : ∃ m : Nat, k = (m : Int) ∧ m < n ∧ bothB b (boxes.getD m (0, 0, 0, 0)) = b := by
  induction n with
  | zero => cases h
  | succ n ih =>
    unfold listL at h
    rcases List.mem_append.1 h with h | h
    · obtain ⟨m, a, b, c⟩ := ih h
      exact ⟨m, a, by omega, c⟩
    · split at h
      · rename_i e
        exact ⟨n, by simpa using h, by omega, e⟩
      · cases h
theorem boxIn_nat {r c ph pw : Nat} (h1 : r ≤ 1000) (h2 : c ≤ 1000) (h3 : ph ≤ 1000) (h4 : pw ≤ 1000) : BoxIn (natB r c ph pw) := ⟨⟨by simp [natB], by simp [natB]; omega⟩, ⟨by simp [natB], by simp [natB]; omega⟩, ⟨by simp [natB], by simp [natB]; omega⟩, ⟨by simp [natB], by simp [natB]; omega⟩⟩
set_option maxRecDepth 100000 in
set_option maxHeartbeats 8000000 in
theorem folded_any (fb h wd : Nat) (cl : Nat → Nat → Int) (boxes : List Box) (hh : h ≤ 6) (hwd : wd ≤ 6) (hbs : ∀ x ∈ boxes, BoxIn x) (hn : boxes.length ≤ 9) :
    ∀ (n : Nat), n ≤ 13 → ∀ (r c ph pw : Nat), ph + pw < n → r + ph ≤ h → c + pw ≤ wd → ∀ (w : World), FloorR w fb h wd cl boxes →
    Calls Try.prog 161 #[partV fb (natB r c ph pw), .func (.func 160) #[] #[], .func (.func 162) #[] #[]] w fun e w' => e = .returned (textV (textL cl boxes n (r, c, ph, pw))) ∧ Below w.heap.size w w' := by
  intro n
  induction n with
  | zero => intro _ r c ph pw h0; omega
  | succ n ih =>
    intro hn13 r c ph pw hlt hr hc w hf
    have HLI := Aside0.mk (fun W (hW : Below w.heap.size w W) => list_any fb h wd cl boxes W (hf.below hW) (natB r c ph pw) (boxIn_nat (by omega) (by omega) (by omega) (by omega)) hbs (by omega))
    have HFI := Aside0.mk (fun W (hW : Below w.heap.size w W) => first_any fb h wd cl boxes W (hf.below hW) (by omega) (by omega) r c ph pw hr hc _ rfl)
    have HIH := Aside0.mk (fun (R : Rc) (hR : Within r c ph pw R) W (hW : Below w.heap.size w W) => ih (by omega) R.1 R.2.1 R.2.2.1 R.2.2.2 (by have := hR.less; omega) (by have := hR.row; omega) (by have := hR.col; omega) W (hf.below hW))
    clear ih hf
    have HLL := listL_len boxes (natB r c ph pw) boxes.length
    by_cases h1 : (listL boxes (natB r c ph pw) boxes.length).length = 1
    · rw [textL_one h1]
      obtain ⟨k0, hk⟩ : ∃ k, listL boxes (natB r c ph pw) boxes.length = [k] := List.length_eq_one_iff.1 h1
      obtain ⟨k, rfl, hkn, _⟩ := listL_mem (show k0 ∈ listL boxes (natB r c ph pw) boxes.length by rw [hk]; simp)
      rw [hk] at HLI ⊢
      clear h1
      have HK := Aside0.mk hk
      clear hk HLL
      simp only [partV, natB, textV] at HLI ⊢
      go_enter Try.func161, Try.ntmps161
      go_wp2_with fail
      refine (HLI.out _ ((Below.refl _ _).alloc (Nat.le_refl _) _)).mono ?_
      rintro e w1 ⟨⟨A, c1, rfl, hc1, hC⟩, hb1⟩
      have HB1 := Aside0.mk hb1
      obtain ⟨ad, rfl, g0⟩ := Kd.at_int hC (0 : Int) (by omega) (by simp)
      have g1 : w1.cell? ad = some (.int .i64 (k : Int)) := by simpa [rd, Addr.add] using g0
      clear hb1 hC g0
      simp only [List.length_cons, List.length_nil, Nat.zero_add]
      go_wp2_with fail
      refine (capital_any k (by omega) _).mono ?_
      rintro e w2 ⟨rfl, hb2⟩
      have HB2 := Aside0.mk hb2
      clear hb2
      go_wp2_with fail
      go_ret2
      exact ⟨rfl, ((Below.refl _ _).alloc (Nat.le_refl _) _).trans ((HB1.out.trans (HB2.out.mono HB1.out.size)).mono (by simp))⟩
    · obtain ⟨m, hm⟩ : ∃ m, (listL boxes (natB r c ph pw) boxes.length).length = m := ⟨_, rfl⟩
      have hm1 : ((m : Int) == 1) = false := by rw [beq_eq_false_iff_ne]; omega
      cases hx : (cutsL cl r c ph pw).head? with
      | none =>
        rw [textL_none h1 hx]
        rw [hm] at HLI HLL h1
        rw [hx] at HFI
        have HM := Aside0.mk hm
        have HX := Aside0.mk hx
        clear hm h1 hx HIH
        simp only [partV, natB, textV, firstV, noPieces] at HLI HFI ⊢
        go_enter Try.func161, Try.ntmps161
        go_wp2_with fail
        refine (HLI.out _ ((Below.refl _ _).alloc (Nat.le_refl _) _)).mono ?_
        rintro e w1 ⟨⟨A, c1, rfl, hc1, hC⟩, hb1⟩
        have hp := (hb1.block w.heap.size (by simp)).trans (heap_alloc_new w _)
        have p0 := blk_cell hp 0
        have p1 := blk_cell hp 1
        have p2 := blk_cell hp 2
        have p3 := blk_cell hp 3
        have p4 := blk_cell hp 4
        simp at p0 p1 p2 p3 p4
        have HB1 := Aside0.mk (((Below.refl _ w).alloc (Nat.le_refl _) _).trans (hb1.mono (by simp)))
        clear hb1 hC hp
        go_wp2_with fail
        refine (HFI.out _ HB1.out).mono ?_
        rintro e w2 ⟨rfl, hb2⟩
        have HB2 := Aside0.mk (HB1.out.trans (hb2.mono HB1.out.size))
        clear hb2 p0 p1 p2 p3 p4
        go_wp2_with fail
        go_ret2
        exact ⟨rfl, HB2.out.alloc HB2.out.size _⟩
      | some x =>
        rw [textL_some h1 hx]
        have hxm := head_in hx
        have H1 := Aside0.mk (HIH.out _ (one_in hxm))
        have H2 := Aside0.mk (HIH.out _ (two_in hxm))
        have l1 := textL_len cl boxes n (oneR r c ph pw x)
        have l2 := textL_len cl boxes n (twoR r c ph pw x)
        have hpow : 2 ^ n ≤ 2 ^ 13 := Nat.pow_le_pow_right (by omega) (by omega)
        rw [hm] at HLI HLL h1
        rw [hx] at HFI
        have HM := Aside0.mk hm
        have HX := Aside0.mk hx
        clear hm h1 hx HIH hxm
        obtain ⟨o1, ho1⟩ : ∃ o, textL cl boxes n (oneR r c ph pw x) = o := ⟨_, rfl⟩
        obtain ⟨o2, ho2⟩ : ∃ o, textL cl boxes n (twoR r c ph pw x) = o := ⟨_, rfl⟩
        have J1 : Aside0 (∀ W, Below w.heap.size w W → Calls Try.prog 161 #[.agg #[.pointer (some ⟨fb, 0, none⟩), .int .i64 (oneB r c ph pw x).1, .int .i64 (oneB r c ph pw x).2.1, .int .i64 (oneB r c ph pw x).2.2.1, .int .i64 (oneB r c ph pw x).2.2.2], .func (.func 160) #[] #[], .func (.func 162) #[] #[]] W fun e w' => e = .returned (textV o1) ∧ Below W.heap.size W w') := ⟨fun W hW => by rw [oneB_R, ← ho1]; exact H1.out W hW⟩
        have J2 : Aside0 (∀ W, Below w.heap.size w W → Calls Try.prog 161 #[.agg #[.pointer (some ⟨fb, 0, none⟩), .int .i64 (twoB r c ph pw x).1, .int .i64 (twoB r c ph pw x).2.1, .int .i64 (twoB r c ph pw x).2.2.1, .int .i64 (twoB r c ph pw x).2.2.2], .func (.func 160) #[] #[], .func (.func 162) #[] #[]] W fun e w' => e = .returned (textV o2) ∧ Below W.heap.size W w') := ⟨fun W hW => by rw [twoB_R, ← ho2]; exact H2.out W hW⟩
        rw [ho1] at l1 ⊢
        rw [ho2] at l2 ⊢
        clear H1 H2 ho1 ho2
        simp only [partV, natB, firstV, piecesV] at HLI HFI
        unfold partV natB
        dsimp only
        go_enter Try.func161, Try.ntmps161
        go_wp2_with fail
        refine (HLI.out _ ((Below.refl _ _).alloc (Nat.le_refl _) _)).mono ?_
        rintro e w1 ⟨⟨A, c1, rfl, hc1, hC⟩, hb1⟩
        have hp := (hb1.block w.heap.size (by simp)).trans (heap_alloc_new w _)
        have p0 := blk_cell hp 0
        have p1 := blk_cell hp 1
        have p2 := blk_cell hp 2
        have p3 := blk_cell hp 3
        have p4 := blk_cell hp 4
        simp at p0 p1 p2 p3 p4
        have HB1 := Aside0.mk (((Below.refl _ w).alloc (Nat.le_refl _) _).trans (hb1.mono (by simp)))
        clear hb1 hC hp
        go_wp2_with fail
        refine (HFI.out _ HB1.out).mono ?_
        rintro e w2 ⟨rfl, hb2⟩
        have HB2 := Aside0.mk (HB1.out.trans (hb2.mono HB1.out.size))
        clear hb2 p0 p1 p2 p3 p4
        simp only [Option.isSome_some]
        go_wp2_with fail
        have hq0 := heap_alloc_new w2 (.cells #[.bool x.1, .pointer (some ⟨fb, 0, none⟩), .int .i64 (oneB r c ph pw x).1, .int .i64 (oneB r c ph pw x).2.1, .int .i64 (oneB r c ph pw x).2.2.1, .int .i64 (oneB r c ph pw x).2.2.2, .pointer (some ⟨fb, 0, none⟩), .int .i64 (twoB r c ph pw x).1, .int .i64 (twoB r c ph pw x).2.1, .int .i64 (twoB r c ph pw x).2.2.1, .int .i64 (twoB r c ph pw x).2.2.2] 109)
        have HB3 := Aside0.mk (HB2.out.alloc HB2.out.size (.cells #[.bool x.1, .pointer (some ⟨fb, 0, none⟩), .int .i64 (oneB r c ph pw x).1, .int .i64 (oneB r c ph pw x).2.1, .int .i64 (oneB r c ph pw x).2.2.1, .int .i64 (oneB r c ph pw x).2.2.2, .pointer (some ⟨fb, 0, none⟩), .int .i64 (twoB r c ph pw x).1, .int .i64 (twoB r c ph pw x).2.1, .int .i64 (twoB r c ph pw x).2.2.1, .int .i64 (twoB r c ph pw x).2.2.2] 109))
        refine (J1.out _ HB3.out).mono ?_
        rintro e w4 ⟨rfl, hb4⟩
        have hq := (hb4.block w2.heap.size (by simp)).trans hq0
        have HQ4 := Aside0.mk hq
        have q6 := blk_cell hq 6
        have q7 := blk_cell hq 7
        have q8 := blk_cell hq 8
        have q9 := blk_cell hq 9
        have q10 := blk_cell hq 10
        simp at q6 q7 q8 q9 q10
        have HB4 := Aside0.mk (HB3.out.trans (hb4.mono HB3.out.size))
        clear hb4 hq hq0
        unfold textV
        go_wp2_with fail
        refine (J2.out _ HB4.out).mono ?_
        rintro e w5 ⟨rfl, hb5⟩
        have hq := (hb5.block w2.heap.size (Array.getElem?_eq_some_iff.1 HQ4.out).1).trans HQ4.out
        clear q6 q7 q8 q9 q10
        have q0 := blk_cell hq 0
        have q1 := blk_cell hq 1
        have q2 := blk_cell hq 2
        have q3 := blk_cell hq 3
        have q4 := blk_cell hq 4
        have q5 := blk_cell hq 5
        have q6 := blk_cell hq 6
        have q7 := blk_cell hq 7
        have q8 := blk_cell hq 8
        have q9 := blk_cell hq 9
        have q10 := blk_cell hq 10
        simp at q0 q1 q2 q3 q4 q5 q6 q7 q8 q9 q10
        have HB5 := Aside0.mk (HB4.out.trans (hb5.mono HB4.out.size))
        clear hb5 hq
        unfold textV
        cases o1 with
        | none =>
          simp only [Option.isSome_none, Option.getD_none]
          go_wp2_with fail
          go_ret2
          exact ⟨rfl, HB5.out⟩
        | some a =>
          cases o2 with
          | none =>
            simp only [Option.isSome_none, Option.isSome_some, Option.getD_none, Option.getD_some]
            go_wp2_with fail
            go_ret2
            exact ⟨rfl, HB5.out⟩
          | some b =>
            have ha := l1 a rfl
            have hb := l2 b rfl
            simp only [Option.isSome_some, Option.getD_some]
            have HJ := Aside0.mk (joint_any fb r c ph pw x a b (by omega) (by omega))
            unfold piecesV at HJ
            clear l1 l2 ha hb hpow
            go_wp2_with fail
            refine (HJ.out _).mono ?_
            rintro e w6 ⟨rfl, hb6⟩
            have HB6 := Aside0.mk (HB5.out.trans (hb6.mono HB5.out.size))
            clear hb6
            go_wp2_with fail
            go_ret2
            exact ⟨rfl, HB6.out⟩
set_option maxHeartbeats 2000000 in
theorem text_of (fb h wd : Nat) (cl : Nat → Nat → Int) (boxes : List Box) (hh : h ≤ 6) (hwd : wd ≤ 6) (hbs : ∀ x ∈ boxes, BoxIn x) (hn : boxes.length ≤ 9) (r c ph pw : Nat) (hr : r + ph ≤ h) (hc : c + pw ≤ wd) (w : World) (hf : FloorR w fb h wd cl boxes) :
    Calls Try.prog 87 #[partV fb (natB r c ph pw)] w fun e w' => e = .returned (textV (textL cl boxes 13 (r, c, ph, pw))) ∧ Below w.heap.size w w' := by
  have HFO := Aside0.mk (fun W (hW : Below w.heap.size w W) => folded_any fb h wd cl boxes hh hwd hbs hn 13 (by omega) r c ph pw (by omega) hr hc W (hf.below hW))
  clear hf
  unfold textV at HFO ⊢
  simp only [partV, natB] at HFO ⊢
  go_enter Try.func87, Try.ntmps87
  go_wp2_with fail
  refine (HFO.out _ ((Below.refl _ _).alloc (Nat.le_refl _) _)).mono ?_
  rintro e w1 ⟨rfl, hb1⟩
  have HB1 := Aside0.mk (((Below.refl _ w).alloc (Nat.le_refl _) _).trans (hb1.mono (by simp)))
  clear hb1
  go_wp2_with fail
  go_ret2
  exact ⟨rfl, HB1.out⟩
end Go.Proofs.Ytdhnjecbdclmaaa
