/- Texts of this claim's, joined by a program: DSpecWays, DSpecDeep, DCutDeep, DTurn, DPlanTurn, DListOwn, DCutStuckS, DCutStuck, DStuckBy, DTile. -/
import Derived.Test.YtdhnjecbdclmaaaKDL3x2
import Derived.Test.YtdhnjecbdclmaaaKDSpecTextM
import Derived.Test.YtdhnjecbdclmaaaKDCodeRowM
import Derived.Test.YtdhnjecbdclmaaaKDDeepPM
import Derived.Test.YtdhnjecbdclmaaaKDDeep
import Derived.Test.YtdhnjecbdclmaaaKDFloorRM
import Derived.Test.YtdhnjecbdclmaaaKDHered
section
namespace Go.Proofs.Ytdhnjecbdclmaaa
open Go.RowKit Go.Shelf Go.Proofs.YtdhnjecbdclmaaaW.PrintWords Go.Proofs.YtdhnjecbdclmaaaW.PrintMore L3
set_option linter.unusedVariables false
theorem walls_l1 (L acc : List (List Int)) (h3 : ∀ e ∈ L, e.length = 3) (hL : L.length ≤ 1000) : ∀ d i, i + d = L.length → ∀ acc : List (List Int), acc.length ≤ 5000 + i → Ev (fun k => spec_l2Walls.l1 k acc L (i : Int)) (acc ++ (L.drop i).map fun e => (1 : Int) :: e) := by
  intro d
  induction d with
  | zero =>
    intro i hi acc ha
    refine Ev.now fun k => ?_
    unfold spec_l2Walls.l1
    rw [if_neg (by omega), List.drop_of_length_le (by omega)]; simp
  | succ d ih =>
    intro i hi acc ha
    have hil : i < L.length := by omega
    have he := h3 _ (List.getElem_mem hil)
    have hE := ih (i + 1) (by omega) (acc ++ [(1 : Int) :: L[i]]) (by rw [List.length_append]; simp; omega)
    rw [List.drop_eq_getElem_cons hil, List.map_cons]
    rw [List.append_assoc] at hE
    refine hE.step fun k => ?_
    show spec_l2Walls.l1 (k + 1) _ _ _ = _
    conv => lhs; unfold spec_l2Walls.l1
    rw [if_pos (by omega), Option.bind_some, if_pos (by omega), rdL_at hil, if_pos (by rw [he]; simp), if_pos (by omega), wsucc (by omega)]
    rfl
theorem walls_l0 {p p2 : List ByteArray} (L M : List (List Int)) (h3 : ∀ e ∈ L, e.length = 3) (hL : L.length ≤ 1000) (hM3 : ∀ e ∈ M, e.length = 3) (hM : M.length ≤ 1000) (hR : Ev (fun k => spec_l1Trans.f k p) p2) (hR2 : Ev (fun k => spec_l2Upright.f k p2) M) : ∀ d i, i + d = L.length → ∀ acc : List (List Int), acc.length ≤ 1000 + i → Ev (fun k => spec_l2Walls.l0 k p acc L (i : Int)) (acc ++ (L.drop i).map (fun e => (0 : Int) :: e) ++ M.map fun e => (1 : Int) :: e) := by
  intro d
  induction d with
  | zero =>
    intro i hi acc ha
    have hE := hR.bind (F := fun k t215 => (spec_l2Upright.f k t215).bind fun t218 => spec_l2Walls.l1 k acc t218 0) (hR2.bind (F := fun k t218 => spec_l2Walls.l1 k acc t218 0) (walls_l1 M acc hM3 hM _ 0 (Nat.zero_add _) acc (by omega)))
    rw [List.drop_zero] at hE
    rw [List.drop_of_length_le (by omega), List.map_nil, List.append_nil]
    refine hE.step fun k => ?_
    show spec_l2Walls.l0 (k + 1) _ _ _ _ = _
    conv => lhs; unfold spec_l2Walls.l0
    rw [if_neg (by omega)]
  | succ d ih =>
    intro i hi acc ha
    have hil : i < L.length := by omega
    have he := h3 _ (List.getElem_mem hil)
    have hE := ih (i + 1) (by omega) (acc ++ [(0 : Int) :: L[i]]) (by rw [List.length_append]; simp; omega)
    rw [List.drop_eq_getElem_cons hil, List.map_cons]
    rw [List.append_assoc acc] at hE
    refine hE.step fun k => ?_
    show spec_l2Walls.l0 (k + 1) _ _ _ _ = _
    conv => lhs; unfold spec_l2Walls.l0
    rw [if_pos (by omega), Option.bind_some, if_pos (by omega), rdL_at hil, if_pos (by rw [he]; simp), if_pos (by omega), wsucc (by omega)]
    rfl
def wallsG (G : Nat → Nat → Int) (h w : Nat) : List (List Int) := ((upL G h 1 (w - 1)).map fun e => (0 : Int) :: e) ++ (upL (fun i j => G j i) w 1 (h - 1)).map fun e => (1 : Int) :: e
theorem walls_f {p : List ByteArray} {h w : Nat} {G : Nat → Nat → Int} (t : TG p h w G) : Ev (fun k => spec_l2Walls.f k p) (wallsG G h w) := by
  have hh := t.high
  have hw := t.wide
  have hu := upL_len G h (w - 1) 1
  have hb : (w - 1) * (h + 1) ≤ 5 * 7 := Nat.mul_le_mul (by omega) (by omega)
  have hv := upL_len (fun i j => G j i) w (h - 1) 1
  have hb2 : (h - 1) * (w + 1) ≤ 5 * 7 := Nat.mul_le_mul (by omega) (by omega)
  have hE := (up_f t).bind (F := fun k t202 => spec_l2Walls.l0 k p (([] : List (List Int))) t202 0) (walls_l0 (upL G h 1 (w - 1)) (upL (fun i j => G j i) w 1 (h - 1)) (up_three _ _ _ _) (by omega) (up_three _ _ _ _) (by omega) (trans_f t) (up_f (trans_TG t)) _ 0 (Nat.zero_add _) [] (by simp))
  rw [List.drop_zero, List.nil_append] at hE
  exact hE
def longE (h w : Nat) (e : List Int) : Bool := (rd e 0 == 0 && rd e 3 == (h : Int)) || (rd e 0 == 1 && rd e 3 == (w : Int))
theorem long_f {p : List ByteArray} {h w : Nat} {G : Nat → Nat → Int} (t : TG p h w G) (e : List Int) (he : e.length = 4) : spec_l3Long.f p e = some (longE h w e) := by
  have hl := t.len
  have hh := t.high
  have hs0 := t.size 0 (by omega)
  rw [show ((0 : Nat) : Int) = 0 from rfl] at hs0
  unfold spec_l3Long.f longE
  rw [he, if_pos (by omega), hl, hs0]
  by_cases h0 : rd e 0 = 0
  · rw [if_pos h0, if_pos (by omega)]
    by_cases h3 : rd e 3 = (h : Int)
    · rw [if_pos h3]; simp [h0, h3]
    · rw [if_neg h3, if_neg (by omega)]; simp [h0, h3]
  · rw [if_neg h0]
    by_cases h1 : rd e 0 = 1
    · rw [if_pos h1, if_pos (by omega), if_pos (by omega)]; simp [h1]
    · rw [if_neg h1]; simp [h0, h1]
theorem cuts_l0 {p : List ByteArray} {h w : Nat} {G : Nat → Nat → Int} (t : TG p h w G) (L : List (List Int)) (h4 : ∀ e ∈ L, e.length = 4) (hL : L.length ≤ 1000) : ∀ d i, i + d = L.length → ∀ acc : List (List Int), acc.length ≤ 1000 + i → Ev (fun k => spec_l3Cuts.l0 k p acc L (i : Int)) (acc ++ (L.drop i).filter (longE h w)) := by
  intro d
  induction d with
  | zero =>
    intro i hi acc ha
    refine Ev.now fun k => ?_
    unfold spec_l3Cuts.l0
    rw [if_neg (by omega), List.drop_of_length_le (by omega)]; simp
  | succ d ih =>
    intro i hi acc ha
    have hil : i < L.length := by omega
    have he := h4 _ (List.getElem_mem hil)
    have hlo := long_f t _ he
    rw [List.drop_eq_getElem_cons hil, List.filter_cons]
    cases hb : longE h w L[i] with
    | true =>
      rw [hb] at hlo
      have hE := ih (i + 1) (by omega) (acc ++ [L[i]]) (by rw [List.length_append]; simp; omega)
      rw [List.append_assoc] at hE
      rw [if_pos rfl]
      refine hE.step fun k => ?_
      show spec_l3Cuts.l0 (k + 1) _ _ _ _ = _
      conv => lhs; unfold spec_l3Cuts.l0
      rw [if_pos (by omega), if_pos (by omega), rdL_at hil, hlo, Option.bind_some, if_pos rfl, if_pos (by omega), wsucc (by omega)]
    | false =>
      rw [hb] at hlo
      rw [if_neg (by simp)]
      refine (ih (i + 1) (by omega) acc (by omega)).step fun k => ?_
      show spec_l3Cuts.l0 (k + 1) _ _ _ _ = _
      conv => lhs; unfold spec_l3Cuts.l0
      rw [if_pos (by omega), if_pos (by omega), rdL_at hil, hlo, Option.bind_some, if_neg (by simp), wsucc (by omega)]
def cutE (h w : Nat) (x : Bool × Nat) : List Int := [kindI x.1, (x.2 : Int), 0, if x.1 then (w : Int) else (h : Int)]
theorem walls_long (G : Nat → Nat → Int) (h w : Nat) (hh : 1 ≤ h) (hw : 1 ≤ w) : (wallsG G h w).filter (longE h w) = (cutsG G h w).map (cutE h w) := by
  unfold wallsG cutsG
  rw [List.filter_append, List.map_append, List.filter_map, List.filter_map]
  have e1 : (longE h w ∘ fun e => (0 : Int) :: e) = fun e => isLong h e := by
    funext e
    show longE h w (0 :: e) = isLong h e
    unfold longE isLong
    have a : rd ((0 : Int) :: e) 0 = 0 := rfl
    have b : rd ((0 : Int) :: e) 3 = rd e 2 := rfl
    rw [a, b]; simp
  have e2 : (longE h w ∘ fun e => (1 : Int) :: e) = fun e => isLong w e := by
    funext e
    show longE h w (1 :: e) = isLong w e
    unfold longE isLong
    have a : rd ((1 : Int) :: e) 0 = 1 := rfl
    have b : rd ((1 : Int) :: e) 3 = rd e 2 := rfl
    rw [a, b]; simp
  rw [e1, e2]
  rw [show List.filter (fun e => isLong h e) (upL G h 1 (w - 1)) = List.filter (isLong h) (upL G h 1 (w - 1)) from rfl, show List.filter (fun e => isLong w e) (upL (fun i j => G j i) w 1 (h - 1)) = List.filter (isLong w) (upL (fun i j => G j i) w 1 (h - 1)) from rfl]
  rw [up_long G h hh, up_long _ w hw, List.map_map, List.map_map, List.map_map, List.map_map]
  rfl
theorem cuts_f {p : List ByteArray} {h w : Nat} {G : Nat → Nat → Int} (t : TG p h w G) : Ev (fun k => spec_l3Cuts.f k p) ((cutsG G h w).map (cutE h w)) := by
  have hh := t.high
  have hw := t.wide
  have hu := upL_len G h (w - 1) 1
  have hb : (w - 1) * (h + 1) ≤ 5 * 7 := Nat.mul_le_mul (by omega) (by omega)
  have hv := upL_len (fun i j => G j i) w (h - 1) 1
  have hb2 : (h - 1) * (w + 1) ≤ 5 * 7 := Nat.mul_le_mul (by omega) (by omega)
  have h4 : ∀ e ∈ wallsG G h w, e.length = 4 := fun e he => by
    unfold wallsG at he
    rcases List.mem_append.1 he with he | he
    · obtain ⟨e', h', rfl⟩ := List.mem_map.1 he
      rw [List.length_cons, up_three _ _ _ _ _ h']
    · obtain ⟨e', h', rfl⟩ := List.mem_map.1 he
      rw [List.length_cons, up_three _ _ _ _ _ h']
  have hE := (walls_f t).bind (F := fun k t242 => spec_l3Cuts.l0 k p (([] : List (List Int))) t242 0) (cuts_l0 t _ h4 (by unfold wallsG; rw [List.length_append, List.length_map, List.length_map]; omega) _ 0 (Nat.zero_add _) [] (by simp))
  rw [List.drop_zero, List.nil_append, walls_long G h w hh.1 hw.1] at hE
  exact hE
end Go.Proofs.Ytdhnjecbdclmaaa
end
section
namespace Go.Proofs.Ytdhnjecbdclmaaa
open Go.RowKit Go.Shelf Go.Proofs.YtdhnjecbdclmaaaW.PrintWords Go.Proofs.YtdhnjecbdclmaaaW.PrintMore L3
set_option linter.unusedVariables false
theorem wrap_deep {a b n : Nat} (ha : a < n) (hb : b < n) (hn : n ≤ 13) : wrap64 (1 + mx (a : Int) (b : Int)) = ((1 + max a b : Nat) : Int) := by
  have hmx : mx (a : Int) (b : Int) = ((max a b : Nat) : Int) := by unfold mx; split <;> omega
  rw [hmx]
  have : max a b ≤ 13 := by omega
  generalize max a b = m at *
  unfold wrap64
  omega
theorem deep_pick {α : Type} (g : Int → Nat → Option α) (s : Option Nat) (a b : Nat) {R : α} (hE : Ev (fun k => g (bestI (stepD s (some a) (some b))) k) R) :
    Ev (fun k => if bestI s < 0 then g ((1 + max a b : Nat) : Int) k else (if ((1 + max a b : Nat) : Int) < bestI s then g ((1 + max a b : Nat) : Int) k else g (bestI s) k)) R := by
  cases s with
  | none =>
    have c1 : bestI none < 0 := by decide
    simp only [if_pos c1]
    exact hE
  | some e =>
    have hbe : bestI (some e) = (e : Int) := rfl
    have c1 : ¬ bestI (some e) < 0 := by rw [hbe]; omega
    simp only [if_neg c1]
    by_cases hd : 1 + max a b < e
    · have c2 : ((1 + max a b : Nat) : Int) < bestI (some e) := by rw [hbe]; omega
      simp only [if_pos c2]
      unfold stepD at hE
      simp only [if_pos hd] at hE
      exact hE
    · have c2 : ¬ ((1 + max a b : Nat) : Int) < bestI (some e) := by rw [hbe]; omega
      simp only [if_neg c2]
      unfold stepD at hE
      simp only [if_neg hd] at hE
      exact hE
theorem specDeep {cl : Nat → Nat → Int} {boxes : List Box} {h wd : Nat} (f : Flat cl boxes h wd) : ∀ (n : Nat), n ≤ 13 → ∀ (r c ph pw : Nat) (p : List ByteArray), ph + pw < n → Whole cl h wd r c ph pw → TG p ph pw (gridOf cl r c) → Pos cl boxes r c ph pw →
    Ev (fun k => spec_l3Deep.f k p) (((deepO cl boxes n (r, c, ph, pw)).getD 0 : Nat) : Int) := by
  intro n
  induction n with
  | zero => intro _ r c ph pw p h0; omega
  | succ n ih =>
    intro hn r c ph pw p hlt hw t hpos
    have hsome := (deep_pos f (n + 1) r c ph pw hlt hw).2 hpos
    have hone := one_f t
    rw [grid_one f hw] at hone
    by_cases h1 : (listL boxes (natB r c ph pw) boxes.length).length = 1
    · rw [decide_eq_true h1] at hone
      have hv : deepO cl boxes (n + 1) (r, c, ph, pw) = some 0 := by unfold deepO; rw [if_pos h1]
      rw [hv]
      refine Ev.stepBind hone (fun k => by conv => lhs; unfold spec_l3Deep.f) ?_
      simp only [if_true]
      exact Ev.const _
    · rw [decide_eq_false h1] at hone
      have hv : deepO cl boxes (n + 1) (r, c, ph, pw) = deepS cl boxes n r c ph pw (cutsL cl r c ph pw) := by
        conv => lhs; unfold deepO
        rw [if_neg h1]; rfl
      rw [hv] at hsome ⊢
      have hgd : (((deepS cl boxes n r c ph pw (cutsL cl r c ph pw)).getD 0 : Nat) : Int) = bestI (deepS cl boxes n r c ph pw (cutsL cl r c ph pw)) := by
        obtain ⟨d, hd⟩ := Option.isSome_iff_exists.1 hsome
        rw [hd]; rfl
      rw [hgd]
      refine Ev.stepBind hone (fun k => by conv => lhs; unfold spec_l3Deep.f) ?_
      simp only [Bool.false_eq_true, if_false]
      refine Ev.bind (cuts_f t) ?_
      have hcg := cuts_grid cl r c ph pw
      have key : ∀ (post pre : List (Bool × Nat)), cutsG (gridOf cl r c) ph pw = pre ++ post → Ev (fun k => spec_l3Deep.l0 k p (bestI (deepS cl boxes n r c ph pw (pre.map (moveX r c)))) ((cutsG (gridOf cl r c) ph pw).map (cutE ph pw)) (pre.length : Int)) (bestI (deepS cl boxes n r c ph pw (cutsL cl r c ph pw))) := by
        intro post
        induction post with
        | nil =>
          intro pre he
          rw [List.append_nil] at he
          refine Ev.now fun k => ?_
          unfold spec_l3Deep.l0
          rw [if_neg (by rw [List.length_map, he]; omega), hcg, he]; rfl
        | cons x post ihp =>
          intro pre he
          have hxg : x ∈ cutsG (gridOf cl r c) ph pw := by rw [he]; simp
          have hxm : moveX r c x ∈ cutsL cl r c ph pw := by rw [hcg]; exact List.mem_map_of_mem hxg
          have hin := cutsG_in hxg
          obtain ⟨w1, w2⟩ := whole_parts f hw hxm
          obtain ⟨t1, t2⟩ := parts_grid t hxg
          have i1 := one_in hxm
          have i2 := two_in hxm
          obtain ⟨q1, q2⟩ := pos_parts f hw hpos hxm
          have e1 := ih (by omega) _ _ _ _ _ (by have := i1.less; omega) w1 t1 q1
          have e2 := ih (by omega) _ _ _ _ _ (by have := i2.less; omega) w2 t2 q2
          have g1 : (deepO cl boxes n (oneR r c ph pw (moveX r c x))).isSome = true := (deep_pos f n _ _ _ _ (by have := i1.less; omega) w1).2 q1
          have g2 : (deepO cl boxes n (twoR r c ph pw (moveX r c x))).isSome = true := (deep_pos f n _ _ _ _ (by have := i2.less; omega) w2).2 q2
          obtain ⟨a, hna⟩ := Option.isSome_iff_exists.1 g1
          obtain ⟨b, hnb⟩ := Option.isSome_iff_exists.1 g2
          rw [show deepO cl boxes n ((oneR r c ph pw (moveX r c x)).1, (oneR r c ph pw (moveX r c x)).2.1, (oneR r c ph pw (moveX r c x)).2.2.1, (oneR r c ph pw (moveX r c x)).2.2.2) = some a from hna] at e1
          rw [show deepO cl boxes n ((twoR r c ph pw (moveX r c x)).1, (twoR r c ph pw (moveX r c x)).2.1, (twoR r c ph pw (moveX r c x)).2.2.1, (twoR r c ph pw (moveX r c x)).2.2.2) = some b from hnb] at e2
          have ha := deep_lt cl boxes n _ a hna
          have hb := deep_lt cl boxes n _ b hnb
          have hp := parts_f t x (by cases hb : x.1 <;> rw [hb] at hin <;> simp at hin ⊢ <;> omega)
          have hsn := deepS_snoc cl boxes n r c ph pw (pre.map (moveX r c)) (moveX r c x)
          rw [hna, hnb] at hsn
          have hsl := deepS_lt cl boxes n r c ph pw (pre.map (moveX r c))
          have hE := ihp (pre ++ [x]) (by rw [he, List.append_assoc]; rfl)
          rw [List.map_append, List.map_singleton, hsn] at hE
          have hlen : (cutsG (gridOf cl r c) ph pw).length ≤ 1000 := by
            have := cutsL_len cl r c ph pw
            rw [hcg, List.length_map] at this
            have hh := t.high
            have hw' := t.wide
            omega
          have hil : pre.length < (cutsG (gridOf cl r c) ph pw).length := by rw [he, List.length_append, List.length_cons]; omega
          have hget : rd_L2 ((cutsG (gridOf cl r c) ph pw).map (cutE ph pw)) (pre.length : Int) = cutE ph pw x := by
            rw [rdL_at (by rw [List.length_map]; exact hil), List.getElem_map]
            congr 1
            simp only [he]
            simp
          have hl4 : (cutE ph pw x).length = 4 := rfl
          have hr0 : rd (cutE ph pw x) 0 = kindI x.1 := rfl
          have hr1 : rd (cutE ph pw x) 1 = (x.2 : Int) := rfl
          rw [List.length_append, List.length_singleton] at hE
          have hwr := wrap_deep (a := a) (b := b) (n := n) ha hb (by omega)
          obtain ⟨s, hs⟩ : ∃ s, deepS cl boxes n r c ph pw (pre.map (moveX r c)) = s := ⟨_, rfl⟩
          rw [hs] at hE hsl ⊢
          have hB := hp.bind (F := fun k bt259 => (spec_l3Deep.f k bt259.1).bind fun t265 => (spec_l3Deep.f k bt259.2).bind fun t266 => (if (bestI s) < 0 then (spec_l3Deep.l0 k p (wrap64 (1 + (mx t265 t266))) ((cutsG (gridOf cl r c) ph pw).map (cutE ph pw)) (wrap64 ((pre.length : Int) + 1))) else (if (wrap64 (1 + (mx t265 t266))) < (bestI s) then (spec_l3Deep.l0 k p (wrap64 (1 + (mx t265 t266))) ((cutsG (gridOf cl r c) ph pw).map (cutE ph pw)) (wrap64 ((pre.length : Int) + 1))) else (spec_l3Deep.l0 k p (bestI s) ((cutsG (gridOf cl r c) ph pw).map (cutE ph pw)) (wrap64 ((pre.length : Int) + 1))))))
            (e1.bind (e2.bind (r := bestI (deepS cl boxes n r c ph pw (cutsL cl r c ph pw))) (by
              simp only [Option.getD_some, hwr]
              rw [wsucc (by omega)]
              exact deep_pick (fun d k => spec_l3Deep.l0 k p d ((cutsG (gridOf cl r c) ph pw).map (cutE ph pw)) ((pre.length + 1 : Nat) : Int)) s a b hE)))
          refine hB.step fun k => ?_
          show spec_l3Deep.l0 (k + 1) _ _ _ _ = _
          conv => lhs; unfold spec_l3Deep.l0
          rw [if_pos (by rw [List.length_map]; omega), if_pos (by omega), hget, hl4, if_pos (by omega), if_pos (by omega), hr0, hr1]
      have := key (cutsG (gridOf cl r c) ph pw) [] rfl
      exact this
end Go.Proofs.Ytdhnjecbdclmaaa
end
section
namespace Go.Proofs.Ytdhnjecbdclmaaa
open Go.RowKit Go.Shelf Go.Proofs.YtdhnjecbdclmaaaW.PrintWords Go.Proofs.YtdhnjecbdclmaaaW.PrintMore
set_option linter.unusedVariables false
def deepP (p : List ByteArray) : Option Nat := deepO (clP p) (boxesP p) 13 (0, 0, p.length, wdP p)
def cutDeepP (p : List ByteArray) : Int × Bool := if planG p then ((((deepP p).getD 0 : Nat) : Int), (deepP p).isSome) else (0, false)
theorem deep_text {p : List ByteArray} (h : planG p = true) : (cutTextO p).isSome = (deepP p).isSome := by
  have f := planFlat h
  have hh := f.high
  have hw := f.wide
  have e1 := text_pos f 13 0 0 p.length (wdP p) (by omega) f.whole
  have e2 := deep_pos f 13 0 0 p.length (wdP p) (by omega) f.whole
  rw [Bool.eq_iff_iff]
  exact e1.trans e2.symm
set_option maxHeartbeats 4000000 in
theorem cutDeep_any (A : Option Addr) (cap : Nat) (p : List ByteArray) (hp : SmallP p) (w : World) (hr0 : Kd.C Kd.string w A p.length p) (hc0 : p.length ≤ cap) :
    Calls Try.prog 44 #[.slice A p.length cap] w fun e w' => e = .returned (.tuple #[.int .i64 (cutDeepP p).1, .bool (cutDeepP p).2]) ∧ Below w.heap.size w w' := by
  have HFL := floorOf_any A cap p hp.1 hp.2 w hr0 hc0
  clear hr0
  go_enter Try.func44, Try.ntmps44
  go_wp2_with fail
  refine HFL.mono ?_
  rintro e w1 ⟨hb1, ⟨hpl, fb, base, rfl, hbase, hfl⟩ | ⟨hpl, o, rfl⟩⟩
  · have HB1 := Aside0.mk hb1
    have F := Aside0.mk (planFlat hpl)
    have hR := hfl.reads
    have hh := (planFlat hpl).high
    have hw := (planFlat hpl).wide
    have hval : cutDeepP p = ((((deepP p).getD 0 : Nat) : Int), (deepP p).isSome) := by unfold cutDeepP; rw [if_pos hpl]
    have HV := Aside0.mk hval
    have HWH := Aside0.mk (whole_any fb p.length (wdP p) (clP p) (boxesP p) w1 hR (by omega) (by omega))
    have HWA := Aside0.mk (fun W (hW : Below w1.heap.size w1 W) => deep_any fb p.length (wdP p) (clP p) (boxesP p) F.out F.out.boxIn 13 (by omega) 0 0 p.length (wdP p) (by omega) F.out.whole W (hR.below hW))
    obtain ⟨m, hm⟩ : ∃ m, deepO (clP p) (boxesP p) 13 (0, 0, p.length, wdP p) = m := ⟨_, rfl⟩
    rw [hm] at HWA
    have HM := Aside0.mk (show deepP p = m from hm)
    clear hb1 hpl hfl hR hval hm
    go_wp2_with fail
    refine HWH.out.mono ?_
    rintro e w2 ⟨rfl, hb2⟩
    have HB2 := Aside0.mk hb2
    clear hb2
    go_wp2_with fail
    refine (HWA.out _ HB2.out).mono ?_
    rintro e w3 ⟨rfl, hb3⟩
    have HB3 := Aside0.mk hb3
    clear hb3
    unfold deepV
    go_wp2_with fail
    all_goals
      go_ret2
      exact ⟨by rw [HV.out, HM.out]; rfl, HB1.out.trans ((HB2.out.trans (HB3.out.mono HB2.out.size)).mono HB1.out.size)⟩
  · have HB1 := Aside0.mk hb1
    have hval : cutDeepP p = (0, false) := by unfold cutDeepP; rw [hpl]; rfl
    have HV := Aside0.mk hval
    clear hb1 hpl hval
    go_wp2_with fail
    go_ret2
    exact ⟨by rw [HV.out]; rfl, HB1.out⟩
theorem cutIs_ev2 (p : List ByteArray) (hp : SmallP p) : Ev (fun k => L3.spec_CutIs.f k p) (cutTextP p).2 := by
  have hPI : Ev (fun _ : Nat => spec_PlanIn.f p) (planG p) := ⟨0, fun k _ => by unfold spec_PlanIn.f; rw [if_pos hp]⟩
  unfold cutTextP
  cases h : planG p with
  | false =>
    rw [h] at hPI
    refine hPI.bind (F := fun k t193 => _) ?_
    simp only [Bool.false_eq_true, if_false]
    exact Ev.const _
  | true =>
    obtain ⟨s, e, y⟩ := spec_text p h
    rw [h] at hPI
    refine hPI.bind (F := fun k t193 => _) ?_
    simp only [if_true]
    exact e.bind (Ev.const _)
theorem spec_CutDeep_f (p : List ByteArray) (hp : SmallP p) : ∃ k, L3.spec_CutDeep.f k p = some (cutDeepP p) := by
  refine Ev.ex (g := fun k => L3.spec_CutDeep.f k p) ?_
  refine (cutIs_ev2 p hp).bind (F := fun k t267 => if t267 = true then (L3.spec_l3Deep.f k p).bind fun t268 => some (t268, true) else some (0, false)) ?_
  unfold cutTextP cutDeepP
  cases h : planG p with
  | false => exact Ev.const _
  | true =>
    have f := planFlat h
    have hw := deep_text h
    have hh := f.high
    have hwd := f.wide
    simp only [if_true]
    rw [← hw]
    cases hs : (cutTextO p).isSome with
    | false =>
      simp only [Bool.false_eq_true, if_false]
      have h0 : deepP p = none := by
        rw [hs] at hw
        exact Option.not_isSome_iff_eq_none.1 (by rw [← hw]; simp)
      rw [h0]
      exact Ev.const _
    | true =>
      simp only [if_true]
      have hpos := (text_pos f 13 0 0 p.length (wdP p) (by omega) f.whole).1 hs
      have := specDeep f 13 (by omega) 0 0 p.length (wdP p) p (by omega) f.whole (planTG h) hpos
      exact this.bind (Ev.const _)
def impl_CutDeep.f (l0 : List ByteArray) : Option (Int × Bool) := if SmallP l0 then some (cutDeepP l0) else none
theorem impl_CutDeep.calls (A0 : Option Addr) (c0 : Nat) (l0 : List ByteArray) (r1 : Int) (r2 : Bool) (w : World) (hr0 : Kd.C Kd.string w A0 l0.length l0) (hc0 : l0.length ≤ c0) (h : impl_CutDeep.f l0 = some (r1, r2)) :
    Calls Try.prog 44 #[.slice A0 l0.length c0] w fun e w' => e = .returned (.tuple #[.int .i64 r1, .bool r2]) ∧ Below w.heap.size w w' := by
  unfold impl_CutDeep.f at h
  split at h
  · rename_i hb; injection h with h; have := cutDeep_any A0 c0 l0 hb w hr0 hc0; rw [h] at this; exact this
  · cases h
def spec_CutDeep.f (l0 : List ByteArray) : Option (Int × Bool) := if SmallP l0 then some (cutDeepP l0) else none
theorem spec_CutDeep.calls (A0 : Option Addr) (c0 : Nat) (l0 : List ByteArray) (r1 : Int) (r2 : Bool) (w : World) (hr0 : Kd.C Kd.string w A0 l0.length l0) (hc0 : l0.length ≤ c0) (h : spec_CutDeep.f l0 = some (r1, r2)) :
    Calls Try.prog 45 #[.slice A0 l0.length c0] w fun e w' => e = .returned (.tuple #[.int .i64 r1, .bool r2]) ∧ Below w.heap.size w w' := by
  unfold spec_CutDeep.f at h
  split at h
  · rename_i hb
    injection h with h
    obtain ⟨k, hk⟩ := spec_CutDeep_f l0 hb
    rw [h] at hk
    exact L3.spec_CutDeep.calls k A0 c0 l0 r1 r2 w hr0 hc0 hk
  · cases h
end Go.Proofs.Ytdhnjecbdclmaaa
end
section
namespace Go.Proofs.Ytdhnjecbdclmaaa
open Go.RowKit Go.Shelf Go.Proofs.YtdhnjecbdclmaaaW.PrintWords Go.Proofs.YtdhnjecbdclmaaaW.PrintMore
set_option linter.unusedVariables false
set_option linter.unusedSimpArgs false
set_option maxRecDepth 100000 in
set_option maxHeartbeats 8000000 in
theorem turned1_any (bx fb h wd : Nat) (cl : Nat → Nat → Int) (boxes : List Box) (r c : Nat) (hr : r < wd) (hc : c < h) (hh : h ≤ 6) (hw : wd ≤ 6) (w : World) (hf : FloorR w fb h wd cl boxes) (hb : w.cell? ⟨bx, 0, none⟩ = some (.pointer (some ⟨fb, 0, none⟩))) :
    Calls Try.prog 182 #[.int .i64 r, .int .i64 c, .pointer (some ⟨bx, 0, none⟩)] w fun e w' => e = .returned (.int .i64 (cl (h - 1 - c) r)) ∧ Below w.heap.size w w' := by
  obtain ⟨g, rb, RA, rc, h1, h2, h3, h4, h5, h6⟩ := hf
  obtain ⟨a1, a2, a3⟩ := h5 (h - 1 - c) (by omega)
  have f0 := a3 r hr
  obtain ⟨q, hq⟩ : ∃ q, rb (h - 1 - c) = q := ⟨_, rfl⟩
  rw [hq] at a2 f0
  have n1 : (c : Int) ≤ (h : Int) - 1 := by omega
  have n2 : (h : Int) - 1 - (c : Int) < (h : Int) := by omega
  have n3 : (0 : Int) ≤ (h : Int) - 1 - (c : Int) := by omega
  have w1 : IntKind.i64.wrap ((h : Int) - 1) = (h : Int) - 1 := by rw [IntKind.wrap_i64]; omega
  have w2 : IntKind.i64.wrap ((h : Int) - 1 - (c : Int)) = (h : Int) - 1 - (c : Int) := by rw [IntKind.wrap_i64]; omega
  have w3 : wrap64 ((h : Int) - 1) = (h : Int) - 1 := by unfold wrap64; omega
  have w4 : wrap64 ((h : Int) - 1 - (c : Int)) = (h : Int) - 1 - (c : Int) := by unfold wrap64; omega
  have HHI : Aside0 (∀ W, W.cell? ⟨fb, 0, none⟩ = some (.slice (some ⟨g, 0, none⟩) h h) → Calls Try.prog 120 #[.pointer (some ⟨fb, 0, none⟩)] W fun e w' => e = .returned (.int .i64 h) ∧ w' = W) := ⟨fun W hW => high_any _ _ h h W hW⟩
  obtain ⟨v, hv⟩ : ∃ v, cl (h - 1 - c) r = v := ⟨_, rfl⟩
  rw [hv] at f0
  rw [hv]
  clear h5 h6 a1 a3 hq hv h4 h1 h2
  go_enter Try.func182, Try.ntmps182
  go_wp2_with fail
  go_region_held3 (fun w' => w'.cell? ⟨bx, 0, none⟩ = some (.pointer (some ⟨fb, 0, none⟩)) ∧ w'.cell? ⟨fb, 0, none⟩ = some (.slice (some ⟨g, 0, none⟩) h h) ∧ w'.cell? ⟨g, h - 1 - c, none⟩ = some (.slice (some ⟨q, 0, none⟩) wd wd) ∧ w'.cell? ⟨q, r, none⟩ = some (.int .i64 v)) (first
    | exact ⟨hb, h3, a2, f0⟩
    | (go_simp)) ((go_at_call 120; refine Calls.mono (HHI.out _ h3) ?_; rintro e w3 ⟨rfl, rfl⟩))
  all_goals
    go_wp2_with fail
    go_ret
    exact ⟨rfl, by repeat (first | exact Below.refl _ _ | apply pw_below_drewN)⟩
def Grown (w w' : World) (hi wd : Nat) (val : Nat → Nat → Int) (e : Ending) : Prop := ∃ (gb : Nat) (rows : List (Nat × List Int)), e = .returned (.slice (some ⟨gb, 0, none⟩) hi hi) ∧ rows.map Prod.snd = (List.range hi).map (fun r => (List.range wd).map fun c => val r c) ∧ GridAt w' gb hi rows ∧ Below w.heap.size w w'
theorem enter_t (args : Array Value) (W : World) : (callFunc 182 args).run Try.prog W = .ok (.enter 182 args) W := by kernel_rfl
theorem div_at {wd r c : Nat} (hc : c < wd) : (r * wd + c) / wd = r ∧ (r * wd + c) % wd = c := by
  have h0 : 0 < wd := by omega
  refine ⟨?_, ?_⟩
  · rw [Nat.mul_comm, Nat.mul_add_div h0, Nat.div_eq_of_lt hc, Nat.add_zero]
  · rw [Nat.mul_comm, Nat.mul_add_mod, Nat.mod_eq_of_lt hc]
theorem spares_of {hb : Nat} {W W' : World} (h : Below W.heap.size W W') : Spares hb W W' := fun j cs t _ hj _ => by
  rw [h.block j (Array.getElem?_eq_some_iff.1 hj).1]; exact hj
theorem blank_ro (hi wd : Nat) (hhi : 1 ≤ hi ∧ hi ≤ 100) (hwd : 1 ≤ wd ∧ wd ≤ 100) (cl : Nat) (cap : Array Value) (val : Nat → Nat → Int) (w : World)
    (hent : ∀ args W, (callFunc cl args).run Try.prog W = .ok (.enter cl args) W)
    (hcall : ∀ r c W, r < hi → c < wd → Below w.heap.size w W → Calls Try.prog cl (#[.int .i64 r, .int .i64 c] ++ cap) W fun e W' => e = .returned (.int .i64 (val r c)) ∧ Below W.heap.size W W') :
    Calls Try.prog 116 #[.int .i64 hi, .int .i64 wd, .func (.func cl) #[] cap] w fun e w' => Grown w w' hi wd val e := by
  refine (blank_any hi wd hhi hwd cl cap (fun n => val (n / wd) (n % wd)) w.heap.size w (Nat.le_refl _) (fun _ _ => True) trivial (fun _ _ _ _ _ _ => trivial) hent ?_).mono ?_
  · intro r c W hr hc _ hB
    refine (hcall r c W hr hc hB).mono ?_
    rintro e W' ⟨rfl, hb⟩
    refine ⟨?_, trivial, hb.mono hB.size, spares_of hb⟩
    show _ = Ending.returned (.int .i64 (val ((r * wd + c) / wd) ((r * wd + c) % wd)))
    rw [(div_at hc).1, (div_at hc).2]
  · rintro e w' ⟨rows, rfl, h1, h2, _, _, h3⟩
    refine ⟨_, rows, rfl, h1.trans ?_, h2, h3⟩
    refine List.map_congr_left fun r _ => List.map_congr_left fun c hc => ?_
    have hc := List.mem_range.1 hc
    rw [(div_at hc).1, (div_at hc).2]
set_option maxRecDepth 100000 in
set_option maxHeartbeats 8000000 in
theorem turned_any (fb h wd : Nat) (cl : Nat → Nat → Int) (boxes : List Box) (hh : 1 ≤ h ∧ h ≤ 6) (hw : 1 ≤ wd ∧ wd ≤ 6) (w : World) (hf : FloorR w fb h wd cl boxes) :
    Calls Try.prog 107 #[.pointer (some ⟨fb, 0, none⟩)] w fun e w' => Grown w w' wd h (fun r c => cl (h - 1 - c) r) e := by
  have HF := Aside0.mk hf
  obtain ⟨g, rb, RA, rc, h1, h2, h3, h4, h5, h6⟩ := hf
  obtain ⟨b1, b2, b3⟩ := h5 0 (by omega)
  have HHI : Aside0 (∀ W, W.cell? ⟨fb, 0, none⟩ = some (.slice (some ⟨g, 0, none⟩) h h) → Calls Try.prog 120 #[.pointer (some ⟨fb, 0, none⟩)] W fun e w' => e = .returned (.int .i64 h) ∧ w' = W) := ⟨fun W hW => high_any _ _ h h W hW⟩
  have HWI : Aside0 (∀ W, W.cell? ⟨fb, 0, none⟩ = some (.slice (some ⟨g, 0, none⟩) h h) → W.cell? ⟨g, 0, none⟩ = some (.slice (some ⟨rb 0, 0, none⟩) wd wd) → Calls Try.prog 113 #[.pointer (some ⟨fb, 0, none⟩)] W fun e w' => e = .returned (.int .i64 wd) ∧ w' = W) := ⟨fun W hW hW2 => wide_any _ g h h hh.1 _ wd wd W hW hW2⟩
  have HBL : Aside0 (∀ W, Below w.heap.size w W → W.cell? ⟨w.heap.size, 0, none⟩ = some (.pointer (some ⟨fb, 0, none⟩)) → w.heap.size < W.heap.size → Calls Try.prog 116 #[.int .i64 wd, .int .i64 h, .func (.func 182) #[] #[.pointer (some ⟨w.heap.size, 0, none⟩)]] W fun e w' => Grown W w' wd h (fun r c => cl (h - 1 - c) r) e) := ⟨fun W hW hbx hlt => blank_ro wd h ⟨by omega, by omega⟩ ⟨by omega, by omega⟩ 182 #[.pointer (some ⟨w.heap.size, 0, none⟩)] _ W enter_t (fun r c W' hr hc hB => turned1_any w.heap.size fb h wd cl boxes r c hr hc hh.2 hw.2 W' (HF.out.below (hW.trans (hB.mono hW.size))) ((hB.cell (p := ⟨w.heap.size, 0, none⟩) hlt).trans hbx))⟩
  have HB0 : Aside0 (Below w.heap.size w (w.alloc (.cells #[.pointer (some ⟨fb, 0, none⟩)] 51))) := ⟨(Below.refl _ _).alloc (Nat.le_refl _) _⟩
  have HC0 : Aside0 ((w.alloc (.cells #[.pointer (some ⟨fb, 0, none⟩)] 51)).cell? ⟨w.heap.size, 0, none⟩ = some (.pointer (some ⟨fb, 0, none⟩))) := ⟨by rw [Lib.cell_of_heap (heap_alloc_new w _)]; rfl⟩
  have HC1 : Aside0 ((w.alloc (.cells #[.pointer (some ⟨fb, 0, none⟩)] 51)).cell? ⟨fb, 0, none⟩ = some (.slice (some ⟨g, 0, none⟩) h h)) := ⟨(HB0.out.cell (p := ⟨fb, 0, none⟩) h1).trans h3⟩
  have HC2 : Aside0 ((w.alloc (.cells #[.pointer (some ⟨fb, 0, none⟩)] 51)).cell? ⟨g, 0, none⟩ = some (.slice (some ⟨rb 0, 0, none⟩) wd wd)) := ⟨(HB0.out.cell (p := ⟨g, 0, none⟩) h2).trans b2⟩
  clear h5 h6 h1 h2 h3 h4 b1 b2 b3
  go_enter Try.func107, Try.ntmps107
  go_wp2_with fail
  go_region_held3 (fun w' => w'.cell? ⟨w.heap.size, 0, none⟩ = some (.pointer (some ⟨fb, 0, none⟩))) (first
    | exact HC0.out
    | exact hc4
    | (go_simp)) (first
    | (go_at_call 120; refine Calls.mono (HHI.out _ HC1.out) ?_; rintro e w3 ⟨rfl, rfl⟩)
    | (go_at_call 113; refine Calls.mono (HWI.out _ HC1.out HC2.out) ?_; rintro e w3 ⟨rfl, rfl⟩)
    | (go_at_call 116; refine Calls.mono (HBL.out _ (by repeat (first | exact HB0.out | apply pw_below_drewN)) HC0.out (by simp)) ?_; rintro e w4 ⟨gb, rows, rfl, g1, g2, g3⟩; have hc4 : w4.cell? ⟨w.heap.size, 0, none⟩ = some (.pointer (some ⟨fb, 0, none⟩)) := (g3.cell (p := ⟨w.heap.size, 0, none⟩) (by simp)).trans HC0.out; have HG := Aside0.mk (And.intro g1 (And.intro g2 g3)); clear g1 g2 g3))
  all_goals
    go_wp2_with fail
    go_ret
    exact ⟨gb, rows, rfl, HG.out.1, HG.out.2.1, Below.trans (by repeat (first | exact HB0.out | apply pw_below_drewN)) (HG.out.2.2.mono HB0.out.size)⟩
end Go.Proofs.Ytdhnjecbdclmaaa
end
section
namespace Go.Proofs.Ytdhnjecbdclmaaa
open Go.RowKit Go.Shelf Go.Proofs.YtdhnjecbdclmaaaW.PrintWords Go.Proofs.YtdhnjecbdclmaaaW.PrintMore
set_option linter.unusedVariables false
set_option linter.unusedSimpArgs false
theorem GridAt.in_ {W : World} {g n : Nat} {rows : List (Nat × List Int)} (h : GridAt W g n rows) : GridIn W g (rows.map Prod.snd) := by
  refine ⟨_, h.1, fun r row hr => ?_⟩
  rw [List.getElem?_map] at hr
  obtain ⟨⟨a, xs⟩, h1, rfl⟩ := Option.map_eq_some_iff.1 hr
  obtain ⟨hl, hg⟩ := List.getElem?_eq_some_iff.1 h1
  refine ⟨a, xs.length, ?_, _, h.2 _ (List.mem_of_getElem? h1), fun c x hx => ?_⟩
  · rw [List.getElem?_toArray, List.getElem?_append_left (by rw [List.length_map]; exact hl), List.getElem?_map, h1]
    rfl
  · rw [List.getElem?_toArray, List.getElem?_map]
    show Option.map _ xs[c]? = _
    rw [hx]; rfl
def planV (rows : List (List Int)) : List ByteArray × Bool := if (shapeB rows && decide ((scanOf rows).2.length ≤ 9)) && fullB rows then ((numsOf rows).map rowText, true) else ([], false)
theorem nums_smallR {rows : List (List Int)} (hs : shapeB rows = true) : (numsOf rows).length ≤ 6 ∧ ∀ row ∈ numsOf rows, row.length ≤ 6 ∧ ∀ k ∈ row, (0 : Int) ≤ k ∧ k ≤ 100 := by
  have h6 : rows.length ≤ 6 ∧ (rows.getD 0 []).length ≤ 6 := by
    unfold shapeB at hs
    simp only [Bool.and_eq_true, decide_eq_true_eq] at hs
    exact ⟨hs.1.1.1.2, hs.1.2⟩
  unfold numsOf
  refine ⟨by rw [List.length_map, List.length_range]; exact h6.1, fun row hrow => ?_⟩
  obtain ⟨r, hr, rfl⟩ := List.mem_map.1 hrow
  have hr := List.mem_range.1 hr
  refine ⟨by rw [List.length_map, List.length_range]; exact h6.2, fun k hk => ?_⟩
  obtain ⟨c, hc, rfl⟩ := List.mem_map.1 hk
  have hc := List.mem_range.1 hc
  refine ⟨Int.natCast_nonneg _, ?_⟩
  have h1 : numAt (rows.getD 0 []).length (cellOf rows (rows.getD 0 []).length) (r * (rows.getD 0 []).length + c) ≤ r * (rows.getD 0 []).length + c := by
    unfold numAt
    exact Nat.le_trans List.idxOf_le_length (scan_len_le _ _ _)
  have h2 : r * (rows.getD 0 []).length ≤ 5 * 6 := Nat.mul_le_mul (by omega) h6.2
  omega
def PlanE (rows : List (List Int)) (w w' : World) (e : Ending) : Prop := (∃ A c, e = .returned (.tuple #[.slice A (planV rows).1.length c, .bool (planV rows).2]) ∧ (planV rows).1.length ≤ c ∧ Kd.C Kd.string w' A (planV rows).1.length (planV rows).1) ∧ Below w.heap.size w w'
theorem nil_C (W : World) : Kd.C Kd.string W none 0 [] := Kd.C_of_reads (d := ByteArray.empty) (enc := Value.string) (h1 := fun _ => rfl) ⟨rfl, Nat.zero_le _, fun h => absurd h (Nat.lt_irrefl 0)⟩
set_option maxRecDepth 100000 in
set_option maxHeartbeats 4000000 in
theorem plan_any (gb n : Nat) (rows : List (Nat × List Int)) (hl : rows.length = n) (hn : n ≤ 100) (w : World) (hg : GridAt w gb n rows) (hx : ∀ row ∈ rows.map Prod.snd, ∀ x ∈ row, (0 : Int) ≤ x ∧ x ≤ 1000) (hrl : ∀ row ∈ rows.map Prod.snd, row.length ≤ 100) :
    Calls Try.prog 181 #[.slice (some ⟨gb, 0, none⟩) n n] w fun e w' => PlanE (rows.map Prod.snd) w w' e := by
  have HST := settled_any gb n (rows.map Prod.snd) (by rw [List.length_map]; omega) w hg.in_ hx (fun row h => by have := hrl row h; omega)
  rw [List.length_map, hl] at HST
  obtain ⟨R, hR⟩ : ∃ R, rows.map Prod.snd = R := ⟨_, rfl⟩
  rw [hR] at HST ⊢
  clear hg hx hrl hR
  go_enter Try.func181, Try.ntmps181
  go_wp2_with fail
  refine HST.mono ?_
  rintro e w1 ⟨hb1, ⟨hsh, fb, rfl, hfl⟩ | ⟨hsh, rfl⟩⟩
  · have HB := Aside0.mk hb1
    cases hfu : fullB R with
    | false =>
      have HV : Aside0 (planV R = ([], false)) := ⟨by unfold planV; rw [hfu, Bool.and_false]; rfl⟩
      clear hsh hfl hb1 hfu
      go_wp2_with fail
      go_ret2
      exact ⟨⟨none, 0, by rw [HV.out]; rfl, by rw [HV.out]; exact Nat.le_refl _, by rw [HV.out]; exact nil_C _⟩, HB.out⟩
    | true =>
      have HV : Aside0 (planV R = ((numsOf R).map rowText, true)) := ⟨by unfold planV; rw [hsh, hfu]; rfl⟩
      have hshape : shapeB R = true := by simp only [Bool.and_eq_true] at hsh; exact hsh.1
      obtain ⟨hn1, hn2⟩ := nums_smallR hshape
      obtain ⟨g, hh, rv, rows', k1, k2, k3, k4, k5, k6⟩ := hfl
      have hrows : ∀ x ∈ rows', x.2.length ≤ 100 ∧ ∀ k ∈ x.2, (0 : Int) ≤ k ∧ k ≤ 100 := fun x hx => by
        have := hn2 x.2 (by rw [← k3]; exact List.mem_map_of_mem hx)
        exact ⟨by omega, this.2⟩
      have hh6 : hh ≤ 6 := by
        rw [← k4]
        have := congrArg List.length k3
        rw [List.length_map] at this
        omega
      have HTX := text_any fb g hh rv rows' w1 k1 k2 k4 (by omega) hrows
      have HSL : Aside0 (((rows'.map Prod.snd).map rowText).length = hh) := ⟨by rw [List.length_map, List.length_map, k4]⟩
      have HK3 := Aside0.mk k3
      clear k1 k2 k3 k4 k5 k6 hrows hn1 hn2 hshape hsh hfu hb1
      go_wp2_with fail
      refine HTX.mono ?_
      rintro e w2 ⟨rfl, hst, hb2⟩
      have HB2 := Aside0.mk hb2
      have HCS := Aside0.mk (StrsAt.reads hst HSL.out (by omega))
      clear hst hb2
      go_wp2_with fail
      go_ret2
      have hlen := HSL.out
      rw [HK3.out] at hlen
      have hC := HCS.out
      rw [HK3.out] at hC
      refine ⟨⟨some ⟨w1.heap.size, 0, none⟩, hh, ?_, ?_, ?_⟩, HB.out.trans (HB2.out.mono HB.out.size)⟩
      · rw [HV.out]
        show Ending.returned _ = Ending.returned (.tuple #[.slice _ ((numsOf R).map rowText).length _, .bool true])
        rw [hlen]; rfl
      · rw [HV.out]
        show ((numsOf R).map rowText).length ≤ hh
        omega
      · rw [HV.out]; exact hC
  · have HB := Aside0.mk hb1
    have HV : Aside0 (planV R = ([], false)) := ⟨by unfold planV; rw [hsh, Bool.false_and]; rfl⟩
    clear hsh hb1
    go_wp2_with fail
    go_ret2
    exact ⟨⟨none, 0, by rw [HV.out]; rfl, by rw [HV.out]; exact Nat.le_refl _, by rw [HV.out]; exact nil_C _⟩, HB.out⟩
def gridV (hi wd : Nat) (val : Nat → Nat → Int) : List (List Int) := (List.range hi).map fun r => (List.range wd).map fun c => val r c
def RemadeE (p : List ByteArray) (R : List (List Int)) (w w' : World) (e : Ending) : Prop := (∃ A c V, V = (if planG p then planV R else ([], false)) ∧ e = .returned (.tuple #[.slice A V.1.length c, .bool V.2]) ∧ V.1.length ≤ c ∧ Kd.C Kd.string w' A V.1.length V.1) ∧ Below w.heap.size w w'
set_option maxRecDepth 100000 in
set_option maxHeartbeats 8000000 in
theorem remade_any (fn : Nat) (hent : ∀ args W, (callFunc fn args).run Try.prog W = .ok (.enter fn args) W) (A : Option Addr) (cap : Nat) (p : List ByteArray) (hp : SmallP p) (hi wd : Nat) (val : Nat → Nat → Int) (hhi : planG p = true → hi ≤ 100 ∧ wd ≤ 100 ∧ ∀ r c, r < hi → c < wd → 0 ≤ val r c ∧ val r c ≤ 1000)
    (how : planG p = true → ∀ fb W, FloorR W fb p.length (wdP p) (clP p) (boxesP p) → Calls Try.prog fn #[.pointer (some ⟨fb, 0, none⟩)] W fun e w' => Grown W w' hi wd val e) (w : World) (hr0 : Kd.C Kd.string w A p.length p) (hc0 : p.length ≤ cap) :
    Calls Try.prog 106 #[.slice A p.length cap, .func (.func fn) #[] #[]] w fun e w' => RemadeE p (gridV hi wd val) w w' e := by
  have HFL := floorOf_any A cap p hp.1 hp.2 w hr0 hc0
  have HOW := Aside0.mk how
  have HHI := Aside0.mk hhi
  clear hr0 how hhi
  go_enter Try.func106, Try.ntmps106
  go_wp2_with fail
  refine HFL.mono ?_
  rintro e w1 ⟨hb1, ⟨hpl, fb, base, rfl, hbase, hfl⟩ | ⟨hpl, o, rfl⟩⟩
  · have HB1 := Aside0.mk hb1
    have HC := Aside0.mk (HOW.out hpl fb w1 hfl.reads)
    have HPL := Aside0.mk hpl
    obtain ⟨hv1, hv2, hv3⟩ := HHI.out hpl
    have HV3 := Aside0.mk hv3
    clear hb1 hpl hfl hv3
    go_wp2_with fail
    refine HC.out.mono ?_
    rintro e w2 ⟨gb, rows, rfl, g1, g2, g3⟩
    have HB2 := Aside0.mk (HB1.out.trans (g3.mono HB1.out.size))
    have hlen : rows.length = hi := by have := congrArg List.length g1; simpa using this
    have hcell : ∀ row ∈ rows.map Prod.snd, row.length ≤ 100 ∧ ∀ x ∈ row, (0 : Int) ≤ x ∧ x ≤ 1000 := fun row hrow => by
      rw [g1] at hrow
      obtain ⟨r, hr, rfl⟩ := List.mem_map.1 hrow
      refine ⟨by rw [List.length_map, List.length_range]; omega, fun x hx => ?_⟩
      obtain ⟨c, hc, rfl⟩ := List.mem_map.1 hx
      exact HV3.out r c (List.mem_range.1 hr) (List.mem_range.1 hc)
    have HPN := plan_any gb hi rows hlen hv1 w2 g2 (fun row h => (hcell row h).2) (fun row h => (hcell row h).1)
    rw [g1] at HPN
    clear g1 g2 g3 hcell hlen
    go_wp2_with fail
    refine HPN.mono ?_
    rintro e w3 ⟨⟨A3, c3, rfl, h1, h2⟩, hb3⟩
    have HB3 := Aside0.mk (HB2.out.trans (hb3.mono HB2.out.size))
    have HC3 := Aside0.mk (And.intro h1 h2)
    clear h1 h2 hb3
    go_wp2_with fail
    go_ret2
    exact ⟨⟨A3, c3, planV (gridV hi wd val), by rw [if_pos HPL.out], rfl, HC3.out.1, HC3.out.2⟩, HB3.out⟩
  · have HB1 := Aside0.mk hb1
    have HPL := Aside0.mk hpl
    clear hb1 hpl
    go_wp2_with fail
    go_ret2
    exact ⟨⟨none, 0, ([], false), by rw [HPL.out]; rfl, rfl, Nat.le_refl _, nil_C _⟩, HB1.out⟩
theorem enter_tu (args : Array Value) (W : World) : (callFunc 107 args).run Try.prog W = .ok (.enter 107 args) W := by kernel_rfl
def turnR (p : List ByteArray) : List (List Int) := gridV (wdP p) p.length fun r c => clP p (p.length - 1 - c) r
theorem clP_small {p : List ByteArray} (h : planG p = true) {i j : Nat} (hi : i < p.length) (hj : j < wdP p) : 0 ≤ clP p i j ∧ clP p i j ≤ 1000 := by
  obtain ⟨k, hk, e⟩ := (planFlat h).num i j hi hj
  have := (planFlat h).few
  omega
set_option maxHeartbeats 4000000 in
theorem planTurn_any (A : Option Addr) (cap : Nat) (p : List ByteArray) (hp : SmallP p) (w : World) (hr0 : Kd.C Kd.string w A p.length p) (hc0 : p.length ≤ cap) :
    Calls Try.prog 47 #[.slice A p.length cap] w fun e w' => RemadeE p (turnR p) w w' e := by
  have HR := remade_any 107 enter_tu A cap p hp (wdP p) p.length (fun r c => clP p (p.length - 1 - c) r)
    (fun h => ⟨by have := (planFlat h).wide; omega, by have := (planFlat h).high; omega, fun r c hr hc => clP_small h (by omega) hr⟩)
    (fun h fb W hF => turned_any fb p.length (wdP p) (clP p) (boxesP p) (planFlat h).high (planFlat h).wide W hF) w hr0 hc0
  clear hr0
  go_enter Try.func47, Try.ntmps47
  go_wp2_with fail
  refine HR.mono ?_
  rintro e w1 ⟨⟨A1, c1, ⟨V, b⟩, hv, rfl, h1, h2⟩, hb⟩
  have HC := Aside0.mk (And.intro hv (And.intro h1 (And.intro h2 hb)))
  clear hv h1 h2 hb
  dsimp only
  go_wp2_with fail
  go_ret2
  exact ⟨⟨A1, c1, (V, b), HC.out.1, rfl, HC.out.2.1, HC.out.2.2.1⟩, HC.out.2.2.2⟩
end Go.Proofs.Ytdhnjecbdclmaaa
end
section
namespace Go.Proofs.Ytdhnjecbdclmaaa
open Go.RowKit Go.Shelf Go.Proofs.YtdhnjecbdclmaaaW.PrintWords Go.Proofs.YtdhnjecbdclmaaaW.PrintMore
set_option linter.unusedVariables false
end Go.Proofs.Ytdhnjecbdclmaaa
end
section
namespace Go.Proofs.Ytdhnjecbdclmaaa
open Go.RowKit Go.Shelf Go.Proofs.YtdhnjecbdclmaaaW.PrintWords Go.Proofs.YtdhnjecbdclmaaaW.PrintMore
set_option linter.unusedVariables false
set_option linter.unusedSimpArgs false
end Go.Proofs.Ytdhnjecbdclmaaa
end
section
namespace Go.Proofs.Ytdhnjecbdclmaaa
open Go.RowKit Go.Shelf Go.Proofs.YtdhnjecbdclmaaaW.PrintWords Go.Proofs.YtdhnjecbdclmaaaW.PrintMore
set_option linter.unusedVariables false
set_option linter.unusedSimpArgs false
end Go.Proofs.Ytdhnjecbdclmaaa
end
section
namespace Go.Proofs.Ytdhnjecbdclmaaa
open Go.RowKit Go.Shelf Go.Proofs.YtdhnjecbdclmaaaW.PrintWords Go.Proofs.YtdhnjecbdclmaaaW.PrintMore
set_option linter.unusedVariables false
set_option linter.unusedSimpArgs false
def BoxFl (h wd : Nat) (B : Box) : Prop := ∃ r c ph pw : Nat, B = natB r c ph pw ∧ 1 ≤ ph ∧ 1 ≤ pw ∧ r + ph ≤ h ∧ c + pw ≤ wd
theorem BoxFl.in_ {h wd : Nat} {A : Box} (ha : BoxFl h wd A) (hh : h ≤ 6) (hw : wd ≤ 6) : BoxIn A ∧ 1 ≤ areaB A ∧ areaB A ≤ 36 := by
  obtain ⟨a1, a2, a3, a4, rfl, a5, a6, a7, a8⟩ := ha
  refine ⟨?_, ?_⟩
  · unfold BoxIn natB
    simp only
    omega
  · show 1 ≤ ((a3 : Int) * (a4 : Int)) ∧ ((a3 : Int) * (a4 : Int)) ≤ 36
    have h1 : a3 * a4 ≤ 6 * 6 := Nat.mul_le_mul (by omega) (by omega)
    have h2 : 1 * 1 ≤ a3 * a4 := Nat.mul_le_mul a5 a6
    rw [← Int.natCast_mul]
    omega
end Go.Proofs.Ytdhnjecbdclmaaa
end
section
namespace Go.Proofs.Ytdhnjecbdclmaaa
open Go.RowKit Go.Shelf Go.Proofs.YtdhnjecbdclmaaaW.PrintWords Go.Proofs.YtdhnjecbdclmaaaW.PrintMore
set_option linter.unusedVariables false
set_option linter.unusedSimpArgs false
def cnt1 (P : Nat → Prop) [DecidablePred P] : Nat → Nat
  | 0 => 0
  | n + 1 => cnt1 P n + if P n then 1 else 0
section
variable {P Q : Nat → Prop} [DecidablePred P] [DecidablePred Q]
theorem cnt1_int (a d : Nat) (n : Nat) : cnt1 (fun i => a ≤ i ∧ i < a + d) n = min n (a + d) - min n a := by
  induction n with
  | zero => simp [cnt1]
  | succ n ih =>
    unfold cnt1
    rw [ih]
    by_cases h : a ≤ n ∧ n < a + d
    · rw [if_pos h]; omega
    · rw [if_neg h]; omega
end
def sumR (g : Nat → Nat) : Nat → Nat
  | 0 => 0
  | n + 1 => sumR g n + g n
theorem sumR_congr {g k : Nat → Nat} (n : Nat) (h : ∀ i, i < n → g i = k i) : sumR g n = sumR k n := by
  induction n with
  | zero => rfl
  | succ n ih => unfold sumR; rw [ih (fun i hi => h i (by omega)), h n (by omega)]
theorem sumR_box (a d e : Nat) (n : Nat) : sumR (fun i => if a ≤ i ∧ i < a + d then e else 0) n = (min n (a + d) - min n a) * e := by
  induction n with
  | zero => simp [sumR]
  | succ n ih =>
    unfold sumR
    rw [ih]
    by_cases h : a ≤ n ∧ n < a + d
    · rw [if_pos h, show min (n + 1) (a + d) - min (n + 1) a = (min n (a + d) - min n a) + 1 by omega, Nat.succ_mul]
    · rw [if_neg h, show min (n + 1) (a + d) - min (n + 1) a = min n (a + d) - min n a by omega]; rfl
theorem cnt1_congr {P Q : Nat → Prop} [DecidablePred P] [DecidablePred Q] (n : Nat) (h : ∀ i, i < n → (P i ↔ Q i)) : cnt1 P n = cnt1 Q n := by
  induction n with
  | zero => rfl
  | succ n ih =>
    unfold cnt1
    rw [ih (fun i hi => h i (by omega))]
    by_cases hp : P n
    · rw [if_pos hp, if_pos ((h n (by omega)).1 hp)]
    · rw [if_neg hp, if_neg (fun hq => hp ((h n (by omega)).2 hq))]
theorem cnt1_none {P : Nat → Prop} [DecidablePred P] (n : Nat) (h : ∀ i, i < n → ¬ P i) : cnt1 P n = 0 := by
  induction n with
  | zero => rfl
  | succ n ih => unfold cnt1; rw [ih (fun i hi => h i (by omega)), if_neg (h n (by omega))]
theorem cells_room {cl : Nat → Nat → Int} {boxes : List Box} {h wd r c ph pw : Nat} (f : Flat cl boxes h wd) (hr : r + ph ≤ h) (hc : c + pw ≤ wd) (k : Nat) (hk : k < boxes.length) (hin : bothB (natB r c ph pw) boxes[k] = natB r c ph pw) :
    ((sumR (fun i => cnt1 (fun j => cl (r + i) (c + j) = (k : Int)) pw) ph : Nat) : Int) = areaB boxes[k] := by
  obtain ⟨a, b, d, e, hb, h1, h2, h3, h4, hcl⟩ := f.box k hk
  rw [hb, both_within] at hin
  rw [hb]
  have e1 : sumR (fun i => cnt1 (fun j => cl (r + i) (c + j) = (k : Int)) pw) ph = sumR (fun i => if a - r ≤ i ∧ i < a - r + d then e else 0) ph := by
    refine sumR_congr ph fun i hi => ?_
    by_cases hio : a - r ≤ i ∧ i < a - r + d
    · rw [if_pos hio, cnt1_congr (Q := fun j => b - c ≤ j ∧ j < b - c + e) pw (fun j hj => by rw [hcl (r + i) (c + j) (by omega) (by omega)]; omega), cnt1_int]
      omega
    · rw [if_neg hio]
      exact cnt1_none pw (fun j hj hcj => by rw [hcl (r + i) (c + j) (by omega) (by omega)] at hcj; omega)
  rw [e1, sumR_box, show min ph (a - r + d) - min ph (a - r) = d by omega]
  show ((d * e : Nat) : Int) = (d : Int) * (e : Int)
  rw [Int.natCast_mul]
end Go.Proofs.Ytdhnjecbdclmaaa
end
