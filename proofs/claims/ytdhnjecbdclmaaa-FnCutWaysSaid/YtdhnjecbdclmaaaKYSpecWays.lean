/- The reference's cuts and ways are the program's. -/
import Derived.Test.YtdhnjecbdclmaaaKYL3x2
import Derived.Test.YtdhnjecbdclmaaaKYSpecTextM
import Derived.Test.YtdhnjecbdclmaaaKYCodeRowM
namespace Go.Proofs.Ytdhnjecbdclmaaa
open Go.RowKit Go.Shelf Go.Proofs.YtdhnjecbdclmaaaW.PrintWords Go.Proofs.YtdhnjecbdclmaaaW.PrintMore L3
set_option linter.unusedVariables false
theorem walls_l1 (L acc : List (List Int)) (h3 : ∀ e ∈ L, e.length = 3) (hL : L.length ≤ 1000) : ∀ d i, i + d = L.length → ∀ acc : List (List Int), acc.length ≤ 5000 + i → Ev (fun k => spec_l2Walls.l1 k acc L (i : Int)) (acc ++ (L.drop i).map fun e => (1 : Int) :: e) := by
  intro d
  induction d with
  | zero =>
    intro i hi acc ha
    refine Ev.now fun k => ?_
    unfold spec_l2Walls.l1
    rw [if_neg (by omega), List.drop_of_length_le (by omega)]; simp
  | succ d ih =>
    intro i hi acc ha
    have hil : i < L.length := by omega
    have he := h3 _ (List.getElem_mem hil)
    have hE := ih (i + 1) (by omega) (acc ++ [(1 : Int) :: L[i]]) (by rw [List.length_append]; simp; omega)
    rw [List.drop_eq_getElem_cons hil, List.map_cons]
    rw [List.append_assoc] at hE
    refine hE.step fun k => ?_
    show spec_l2Walls.l1 (k + 1) _ _ _ = _
    conv => lhs; unfold spec_l2Walls.l1
    rw [if_pos (by omega), Option.bind_some, if_pos (by omega), rdL_at hil, if_pos (by rw [he]; simp), if_pos (by omega), wsucc (by omega)]
    rfl
theorem walls_l0 {p p2 : List ByteArray} (L M : List (List Int)) (h3 : ∀ e ∈ L, e.length = 3) (hL : L.length ≤ 1000) (hM3 : ∀ e ∈ M, e.length = 3) (hM : M.length ≤ 1000) (hR : Ev (fun k => spec_l1Trans.f k p) p2) (hR2 : Ev (fun k => spec_l2Upright.f k p2) M) : ∀ d i, i + d = L.length → ∀ acc : List (List Int), acc.length ≤ 1000 + i → Ev (fun k => spec_l2Walls.l0 k p acc L (i : Int)) (acc ++ (L.drop i).map (fun e => (0 : Int) :: e) ++ M.map fun e => (1 : Int) :: e) := by
  intro d
  induction d with
  | zero =>
    intro i hi acc ha
    have hE := hR.bind (F := fun k t215 => (spec_l2Upright.f k t215).bind fun t218 => spec_l2Walls.l1 k acc t218 0) (hR2.bind (F := fun k t218 => spec_l2Walls.l1 k acc t218 0) (walls_l1 M acc hM3 hM _ 0 (Nat.zero_add _) acc (by omega)))
    rw [List.drop_zero] at hE
    rw [List.drop_of_length_le (by omega), List.map_nil, List.append_nil]
    refine hE.step fun k => ?_
    show spec_l2Walls.l0 (k + 1) _ _ _ _ = _
    conv => lhs; unfold spec_l2Walls.l0
    rw [if_neg (by omega)]
  | succ d ih =>
    intro i hi acc ha
    have hil : i < L.length := by omega
    have he := h3 _ (List.getElem_mem hil)
    have hE := ih (i + 1) (by omega) (acc ++ [(0 : Int) :: L[i]]) (by rw [List.length_append]; simp; omega)
    rw [List.drop_eq_getElem_cons hil, List.map_cons]
    rw [List.append_assoc acc] at hE
    refine hE.step fun k => ?_
    show spec_l2Walls.l0 (k + 1) _ _ _ _ = _
    conv => lhs; unfold spec_l2Walls.l0
    rw [if_pos (by omega), Option.bind_some, if_pos (by omega), rdL_at hil, if_pos (by rw [he]; simp), if_pos (by omega), wsucc (by omega)]
    rfl
def wallsG (G : Nat → Nat → Int) (h w : Nat) : List (List Int) := ((upL G h 1 (w - 1)).map fun e => (0 : Int) :: e) ++ (upL (fun i j => G j i) w 1 (h - 1)).map fun e => (1 : Int) :: e
theorem walls_f {p : List ByteArray} {h w : Nat} {G : Nat → Nat → Int} (t : TG p h w G) : Ev (fun k => spec_l2Walls.f k p) (wallsG G h w) := by
  have hh := t.high
  have hw := t.wide
  have hu := upL_len G h (w - 1) 1
  have hb : (w - 1) * (h + 1) ≤ 5 * 7 := Nat.mul_le_mul (by omega) (by omega)
  have hv := upL_len (fun i j => G j i) w (h - 1) 1
  have hb2 : (h - 1) * (w + 1) ≤ 5 * 7 := Nat.mul_le_mul (by omega) (by omega)
  have hE := (up_f t).bind (F := fun k t202 => spec_l2Walls.l0 k p (([] : List (List Int))) t202 0) (walls_l0 (upL G h 1 (w - 1)) (upL (fun i j => G j i) w 1 (h - 1)) (up_three _ _ _ _) (by omega) (up_three _ _ _ _) (by omega) (trans_f t) (up_f (trans_TG t)) _ 0 (Nat.zero_add _) [] (by simp))
  rw [List.drop_zero, List.nil_append] at hE
  exact hE
def longE (h w : Nat) (e : List Int) : Bool := (rd e 0 == 0 && rd e 3 == (h : Int)) || (rd e 0 == 1 && rd e 3 == (w : Int))
theorem long_f {p : List ByteArray} {h w : Nat} {G : Nat → Nat → Int} (t : TG p h w G) (e : List Int) (he : e.length = 4) : spec_l3Long.f p e = some (longE h w e) := by
  have hl := t.len
  have hh := t.high
  have hs0 := t.size 0 (by omega)
  rw [show ((0 : Nat) : Int) = 0 from rfl] at hs0
  unfold spec_l3Long.f longE
  rw [he, if_pos (by omega), hl, hs0]
  by_cases h0 : rd e 0 = 0
  · rw [if_pos h0, if_pos (by omega)]
    by_cases h3 : rd e 3 = (h : Int)
    · rw [if_pos h3]; simp [h0, h3]
    · rw [if_neg h3, if_neg (by omega)]; simp [h0, h3]
  · rw [if_neg h0]
    by_cases h1 : rd e 0 = 1
    · rw [if_pos h1, if_pos (by omega), if_pos (by omega)]; simp [h1]
    · rw [if_neg h1]; simp [h0, h1]
theorem cuts_l0 {p : List ByteArray} {h w : Nat} {G : Nat → Nat → Int} (t : TG p h w G) (L : List (List Int)) (h4 : ∀ e ∈ L, e.length = 4) (hL : L.length ≤ 1000) : ∀ d i, i + d = L.length → ∀ acc : List (List Int), acc.length ≤ 1000 + i → Ev (fun k => spec_l3Cuts.l0 k p acc L (i : Int)) (acc ++ (L.drop i).filter (longE h w)) := by
  intro d
  induction d with
  | zero =>
    intro i hi acc ha
    refine Ev.now fun k => ?_
    unfold spec_l3Cuts.l0
    rw [if_neg (by omega), List.drop_of_length_le (by omega)]; simp
  | succ d ih =>
    intro i hi acc ha
    have hil : i < L.length := by omega
    have he := h4 _ (List.getElem_mem hil)
    have hlo := long_f t _ he
    rw [List.drop_eq_getElem_cons hil, List.filter_cons]
    cases hb : longE h w L[i] with
    | true =>
      rw [hb] at hlo
      have hE := ih (i + 1) (by omega) (acc ++ [L[i]]) (by rw [List.length_append]; simp; omega)
      rw [List.append_assoc] at hE
      rw [if_pos rfl]
      refine hE.step fun k => ?_
      show spec_l3Cuts.l0 (k + 1) _ _ _ _ = _
      conv => lhs; unfold spec_l3Cuts.l0
      rw [if_pos (by omega), if_pos (by omega), rdL_at hil, hlo, Option.bind_some, if_pos rfl, if_pos (by omega), wsucc (by omega)]
    | false =>
      rw [hb] at hlo
      rw [if_neg (by simp)]
      refine (ih (i + 1) (by omega) acc (by omega)).step fun k => ?_
      show spec_l3Cuts.l0 (k + 1) _ _ _ _ = _
      conv => lhs; unfold spec_l3Cuts.l0
      rw [if_pos (by omega), if_pos (by omega), rdL_at hil, hlo, Option.bind_some, if_neg (by simp), wsucc (by omega)]
def cutE (h w : Nat) (x : Bool × Nat) : List Int := [kindI x.1, (x.2 : Int), 0, if x.1 then (w : Int) else (h : Int)]
theorem walls_long (G : Nat → Nat → Int) (h w : Nat) (hh : 1 ≤ h) (hw : 1 ≤ w) : (wallsG G h w).filter (longE h w) = (cutsG G h w).map (cutE h w) := by
  unfold wallsG cutsG
  rw [List.filter_append, List.map_append, List.filter_map, List.filter_map]
  have e1 : (longE h w ∘ fun e => (0 : Int) :: e) = fun e => isLong h e := by
    funext e
    show longE h w (0 :: e) = isLong h e
    unfold longE isLong
    have a : rd ((0 : Int) :: e) 0 = 0 := rfl
    have b : rd ((0 : Int) :: e) 3 = rd e 2 := rfl
    rw [a, b]; simp
  have e2 : (longE h w ∘ fun e => (1 : Int) :: e) = fun e => isLong w e := by
    funext e
    show longE h w (1 :: e) = isLong w e
    unfold longE isLong
    have a : rd ((1 : Int) :: e) 0 = 1 := rfl
    have b : rd ((1 : Int) :: e) 3 = rd e 2 := rfl
    rw [a, b]; simp
  rw [e1, e2]
  rw [show List.filter (fun e => isLong h e) (upL G h 1 (w - 1)) = List.filter (isLong h) (upL G h 1 (w - 1)) from rfl, show List.filter (fun e => isLong w e) (upL (fun i j => G j i) w 1 (h - 1)) = List.filter (isLong w) (upL (fun i j => G j i) w 1 (h - 1)) from rfl]
  rw [up_long G h hh, up_long _ w hw, List.map_map, List.map_map, List.map_map, List.map_map]
  rfl
theorem cuts_f {p : List ByteArray} {h w : Nat} {G : Nat → Nat → Int} (t : TG p h w G) : Ev (fun k => spec_l3Cuts.f k p) ((cutsG G h w).map (cutE h w)) := by
  have hh := t.high
  have hw := t.wide
  have hu := upL_len G h (w - 1) 1
  have hb : (w - 1) * (h + 1) ≤ 5 * 7 := Nat.mul_le_mul (by omega) (by omega)
  have hv := upL_len (fun i j => G j i) w (h - 1) 1
  have hb2 : (h - 1) * (w + 1) ≤ 5 * 7 := Nat.mul_le_mul (by omega) (by omega)
  have h4 : ∀ e ∈ wallsG G h w, e.length = 4 := fun e he => by
    unfold wallsG at he
    rcases List.mem_append.1 he with he | he
    · obtain ⟨e', h', rfl⟩ := List.mem_map.1 he
      rw [List.length_cons, up_three _ _ _ _ _ h']
    · obtain ⟨e', h', rfl⟩ := List.mem_map.1 he
      rw [List.length_cons, up_three _ _ _ _ _ h']
  have hE := (walls_f t).bind (F := fun k t242 => spec_l3Cuts.l0 k p (([] : List (List Int))) t242 0) (cuts_l0 t _ h4 (by unfold wallsG; rw [List.length_append, List.length_map, List.length_map]; omega) _ 0 (Nat.zero_add _) [] (by simp))
  rw [List.drop_zero, List.nil_append, walls_long G h w hh.1 hw.1] at hE
  exact hE
theorem wrap_sum2 {s a b : Nat} (h : s + a * b ≤ 1000000000) : wrap64 ((s : Int) + wrap64 ((a : Int) * (b : Int))) = ((s + a * b : Nat) : Int) := by
  have e : (a : Int) * (b : Int) = ((a * b : Nat) : Int) := by push_cast; rfl
  rw [e]
  generalize a * b = m at *
  unfold wrap64
  omega
theorem specWays {cl : Nat → Nat → Int} {boxes : List Box} {h wd : Nat} (f : Flat cl boxes h wd) : ∀ (n : Nat), n ≤ 13 → ∀ (r c ph pw : Nat) (p : List ByteArray), ph + pw < n → Whole cl h wd r c ph pw → TG p ph pw (gridOf cl r c) →
    Ev (fun k => spec_l3Ways.f k p) ((waysN cl boxes n (r, c, ph, pw) : Nat) : Int) := by
  intro n
  induction n with
  | zero => intro _ r c ph pw p h0; omega
  | succ n ih =>
    intro hn r c ph pw p hlt hw t
    have hone := one_f t
    rw [grid_one f hw] at hone
    by_cases h1 : (listL boxes (natB r c ph pw) boxes.length).length = 1
    · rw [decide_eq_true h1] at hone
      have hv : waysN cl boxes (n + 1) (r, c, ph, pw) = 1 := by unfold waysN; rw [if_pos h1]
      rw [hv]
      refine Ev.stepBind hone (fun k => by conv => lhs; unfold spec_l3Ways.f) ?_
      simp only [if_true]
      exact Ev.const _
    · rw [decide_eq_false h1] at hone
      have hv : waysN cl boxes (n + 1) (r, c, ph, pw) = waysSum cl boxes n r c ph pw (cutsL cl r c ph pw) := by unfold waysN; rw [if_neg h1]; rfl
      rw [hv]
      refine Ev.stepBind hone (fun k => by conv => lhs; unfold spec_l3Ways.f) ?_
      simp only [Bool.false_eq_true, if_false]
      refine Ev.bind (cuts_f t) ?_
      have hcg := cuts_grid cl r c ph pw
      have key : ∀ (post pre : List (Bool × Nat)), cutsG (gridOf cl r c) ph pw = pre ++ post → Ev (fun k => spec_l3Ways.l0 k p ((waysSum cl boxes n r c ph pw (pre.map (moveX r c)) : Nat) : Int) ((cutsG (gridOf cl r c) ph pw).map (cutE ph pw)) (pre.length : Int)) ((waysSum cl boxes n r c ph pw (cutsL cl r c ph pw) : Nat) : Int) := by
        intro post
        induction post with
        | nil =>
          intro pre he
          rw [List.append_nil] at he
          refine Ev.now fun k => ?_
          unfold spec_l3Ways.l0
          rw [if_neg (by rw [List.length_map, he]; omega), hcg, he]; rfl
        | cons x post ihp =>
          intro pre he
          have hxg : x ∈ cutsG (gridOf cl r c) ph pw := by rw [he]; simp
          have hxm : moveX r c x ∈ cutsL cl r c ph pw := by rw [hcg]; exact List.mem_map_of_mem hxg
          have hin := cutsG_in hxg
          obtain ⟨w1, w2⟩ := whole_parts f hw hxm
          obtain ⟨t1, t2⟩ := parts_grid t hxg
          have i1 := one_in hxm
          have i2 := two_in hxm
          have e1 := ih (by omega) _ _ _ _ _ (by have := i1.less; omega) w1 t1
          have e2 := ih (by omega) _ _ _ _ _ (by have := i2.less; omega) w2 t2
          have hp := parts_f t x (by cases hb : x.1 <;> rw [hb] at hin <;> simp at hin ⊢ <;> omega)
          obtain ⟨na, hna⟩ : ∃ a, waysN cl boxes n (oneR r c ph pw (moveX r c x)) = a := ⟨_, rfl⟩
          obtain ⟨nb, hnb⟩ : ∃ a, waysN cl boxes n (twoR r c ph pw (moveX r c x)) = a := ⟨_, rfl⟩
          rw [show waysN cl boxes n ((oneR r c ph pw (moveX r c x)).1, (oneR r c ph pw (moveX r c x)).2.1, (oneR r c ph pw (moveX r c x)).2.2.1, (oneR r c ph pw (moveX r c x)).2.2.2) = na from hna] at e1
          rw [show waysN cl boxes n ((twoR r c ph pw (moveX r c x)).1, (twoR r c ph pw (moveX r c x)).2.1, (twoR r c ph pw (moveX r c x)).2.2.1, (twoR r c ph pw (moveX r c x)).2.2.2) = nb from hnb] at e2
          have hpre : (pre.map (moveX r c)) ++ [moveX r c x] <+: cutsL cl r c ph pw := by
            rw [hcg, he, List.map_append, List.map_cons]
            exact ⟨post.map (moveX r c), by rw [List.append_assoc]; rfl⟩
          have hsm := waysSum_pre f n r c ph pw hw hpre
          have hsn := waysSum_snoc cl boxes n r c ph pw (pre.map (moveX r c)) (moveX r c x)
          rw [hna, hnb] at hsn
          rw [hsn] at hsm
          have hE := ihp (pre ++ [x]) (by rw [he, List.append_assoc]; rfl)
          rw [List.map_append, List.map_singleton, hsn] at hE
          have hlen : (cutsG (gridOf cl r c) ph pw).length ≤ 1000 := by
            have := cutsL_len cl r c ph pw
            rw [hcg, List.length_map] at this
            have hh := t.high
            have hw' := t.wide
            omega
          have hil : pre.length < (cutsG (gridOf cl r c) ph pw).length := by rw [he, List.length_append, List.length_cons]; omega
          have hget : rd_L2 ((cutsG (gridOf cl r c) ph pw).map (cutE ph pw)) (pre.length : Int) = cutE ph pw x := by
            rw [rdL_at (by rw [List.length_map]; exact hil), List.getElem_map]
            congr 1
            simp only [he]
            simp
          have hl4 : (cutE ph pw x).length = 4 := rfl
          have hr0 : rd (cutE ph pw x) 0 = kindI x.1 := rfl
          have hr1 : rd (cutE ph pw x) 1 = (x.2 : Int) := rfl
          have hB := hp.bind (F := fun k bt259 => (spec_l3Ways.f k bt259.1).bind fun t265 => (spec_l3Ways.f k bt259.2).bind fun t266 => spec_l3Ways.l0 k p (wrap64 (((waysSum cl boxes n r c ph pw (pre.map (moveX r c)) : Nat) : Int) + (wrap64 (t265 * t266)))) ((cutsG (gridOf cl r c) ph pw).map (cutE ph pw)) (wrap64 ((pre.length : Int) + 1)))
            (e1.bind (e2.bind (r := ((waysSum cl boxes n r c ph pw (cutsL cl r c ph pw) : Nat) : Int)) (by
              simp only [wrap_sum2 hsm]
              rw [wsucc (by omega)]
              rw [List.length_append, List.length_singleton] at hE
              exact hE)))
          refine hB.step fun k => ?_
          show spec_l3Ways.l0 (k + 1) _ _ _ _ = _
          conv => lhs; unfold spec_l3Ways.l0
          rw [if_pos (by rw [List.length_map]; omega), if_pos (by omega), hget, hl4, if_pos (by omega), if_pos (by omega), hr0, hr1]
      have := key (cutsG (gridOf cl r c) ph pw) [] rfl
      exact this
end Go.Proofs.Ytdhnjecbdclmaaa
