/- The reference's depths are the program's. -/
import Derived.Test.YtiehiockjlhbcaaKSpecWays
import Derived.Test.YtiehiockjlhbcaaKDeepP
namespace Go.Proofs.Ytiehiockjlhbcaa
open Go.RowKit Go.Shelf Go.Proofs.YtiehiockjlhbcaaW.PrintWords Go.Proofs.YtiehiockjlhbcaaW.PrintMore L3
set_option linter.unusedVariables false

theorem wrap_deep {a b n : Nat} (ha : a < n) (hb : b < n) (hn : n ≤ 13) : wrap64 (1 + mx (a : Int) (b : Int)) = ((1 + max a b : Nat) : Int) := by
  have hmx : mx (a : Int) (b : Int) = ((max a b : Nat) : Int) := by unfold mx; split <;> omega
  rw [hmx]
  have : max a b ≤ 13 := by omega
  generalize max a b = m at *
  unfold wrap64
  omega
theorem deep_pick {α : Type} (g : Int → Nat → Option α) (s : Option Nat) (a b : Nat) {R : α} (hE : Ev (fun k => g (bestI (stepD s (some a) (some b))) k) R) :
    Ev (fun k => if bestI s < 0 then g ((1 + max a b : Nat) : Int) k else (if ((1 + max a b : Nat) : Int) < bestI s then g ((1 + max a b : Nat) : Int) k else g (bestI s) k)) R := by
  cases s with
  | none =>
    have c1 : bestI none < 0 := by decide
    simp only [if_pos c1]
    exact hE
  | some e =>
    have hbe : bestI (some e) = (e : Int) := rfl
    have c1 : ¬ bestI (some e) < 0 := by rw [hbe]; omega
    simp only [if_neg c1]
    by_cases hd : 1 + max a b < e
    · have c2 : ((1 + max a b : Nat) : Int) < bestI (some e) := by rw [hbe]; omega
      simp only [if_pos c2]
      unfold stepD at hE
      simp only [if_pos hd] at hE
      exact hE
    · have c2 : ¬ ((1 + max a b : Nat) : Int) < bestI (some e) := by rw [hbe]; omega
      simp only [if_neg c2]
      unfold stepD at hE
      simp only [if_neg hd] at hE
      exact hE
/-- The reference's least depth, of what is cuttable. -/
theorem specDeep {cl : Nat → Nat → Int} {boxes : List Box} {h wd : Nat} (f : Flat cl boxes h wd) : ∀ (n : Nat), n ≤ 13 → ∀ (r c ph pw : Nat) (p : List ByteArray), ph + pw < n → Whole cl h wd r c ph pw → TG p ph pw (gridOf cl r c) → Pos cl boxes r c ph pw →
    Ev (fun k => spec_l3Deep.f k p) (((deepO cl boxes n (r, c, ph, pw)).getD 0 : Nat) : Int) := by
  intro n
  induction n with
  | zero => intro _ r c ph pw p h0; omega
  | succ n ih =>
    intro hn r c ph pw p hlt hw t hpos
    have hsome := (deep_pos f (n + 1) r c ph pw hlt hw).2 hpos
    have hone := one_f t
    rw [grid_one f hw] at hone
    by_cases h1 : (listL boxes (natB r c ph pw) boxes.length).length = 1
    · rw [decide_eq_true h1] at hone
      have hv : deepO cl boxes (n + 1) (r, c, ph, pw) = some 0 := by unfold deepO; rw [if_pos h1]
      rw [hv]
      refine Ev.stepBind hone (fun k => by conv => lhs; unfold spec_l3Deep.f) ?_
      simp only [if_true]
      exact Ev.const _
    · rw [decide_eq_false h1] at hone
      have hv : deepO cl boxes (n + 1) (r, c, ph, pw) = deepS cl boxes n r c ph pw (cutsL cl r c ph pw) := by
        conv => lhs; unfold deepO
        rw [if_neg h1]; rfl
      rw [hv] at hsome ⊢
      have hgd : (((deepS cl boxes n r c ph pw (cutsL cl r c ph pw)).getD 0 : Nat) : Int) = bestI (deepS cl boxes n r c ph pw (cutsL cl r c ph pw)) := by
        obtain ⟨d, hd⟩ := Option.isSome_iff_exists.1 hsome
        rw [hd]; rfl
      rw [hgd]
      refine Ev.stepBind hone (fun k => by conv => lhs; unfold spec_l3Deep.f) ?_
      simp only [Bool.false_eq_true, if_false]
      refine Ev.bind (cuts_f t) ?_
      have hcg := cuts_grid cl r c ph pw
      have key : ∀ (post pre : List (Bool × Nat)), cutsG (gridOf cl r c) ph pw = pre ++ post → Ev (fun k => spec_l3Deep.l0 k p (bestI (deepS cl boxes n r c ph pw (pre.map (moveX r c)))) ((cutsG (gridOf cl r c) ph pw).map (cutE ph pw)) (pre.length : Int)) (bestI (deepS cl boxes n r c ph pw (cutsL cl r c ph pw))) := by
        intro post
        induction post with
        | nil =>
          intro pre he
          rw [List.append_nil] at he
          refine Ev.now fun k => ?_
          unfold spec_l3Deep.l0
          rw [if_neg (by rw [List.length_map, he]; omega), hcg, he]; rfl
        | cons x post ihp =>
          intro pre he
          have hxg : x ∈ cutsG (gridOf cl r c) ph pw := by rw [he]; simp
          have hxm : moveX r c x ∈ cutsL cl r c ph pw := by rw [hcg]; exact List.mem_map_of_mem hxg
          have hin := cutsG_in hxg
          obtain ⟨w1, w2⟩ := whole_parts f hw hxm
          obtain ⟨t1, t2⟩ := parts_grid t hxg
          have i1 := one_in hxm
          have i2 := two_in hxm
          obtain ⟨q1, q2⟩ := pos_parts f hw hpos hxm
          have e1 := ih (by omega) _ _ _ _ _ (by have := i1.less; omega) w1 t1 q1
          have e2 := ih (by omega) _ _ _ _ _ (by have := i2.less; omega) w2 t2 q2
          have g1 : (deepO cl boxes n (oneR r c ph pw (moveX r c x))).isSome = true := (deep_pos f n _ _ _ _ (by have := i1.less; omega) w1).2 q1
          have g2 : (deepO cl boxes n (twoR r c ph pw (moveX r c x))).isSome = true := (deep_pos f n _ _ _ _ (by have := i2.less; omega) w2).2 q2
          obtain ⟨a, hna⟩ := Option.isSome_iff_exists.1 g1
          obtain ⟨b, hnb⟩ := Option.isSome_iff_exists.1 g2
          rw [show deepO cl boxes n ((oneR r c ph pw (moveX r c x)).1, (oneR r c ph pw (moveX r c x)).2.1, (oneR r c ph pw (moveX r c x)).2.2.1, (oneR r c ph pw (moveX r c x)).2.2.2) = some a from hna] at e1
          rw [show deepO cl boxes n ((twoR r c ph pw (moveX r c x)).1, (twoR r c ph pw (moveX r c x)).2.1, (twoR r c ph pw (moveX r c x)).2.2.1, (twoR r c ph pw (moveX r c x)).2.2.2) = some b from hnb] at e2
          have ha := deep_lt cl boxes n _ a hna
          have hb := deep_lt cl boxes n _ b hnb
          have hp := parts_f t x (by cases hb : x.1 <;> rw [hb] at hin <;> simp at hin ⊢ <;> omega)
          have hsn := deepS_snoc cl boxes n r c ph pw (pre.map (moveX r c)) (moveX r c x)
          rw [hna, hnb] at hsn
          have hsl := deepS_lt cl boxes n r c ph pw (pre.map (moveX r c))
          have hE := ihp (pre ++ [x]) (by rw [he, List.append_assoc]; rfl)
          rw [List.map_append, List.map_singleton, hsn] at hE
          have hlen : (cutsG (gridOf cl r c) ph pw).length ≤ 1000 := by
            have := cutsL_len cl r c ph pw
            rw [hcg, List.length_map] at this
            have hh := t.high
            have hw' := t.wide
            omega
          have hil : pre.length < (cutsG (gridOf cl r c) ph pw).length := by rw [he, List.length_append, List.length_cons]; omega
          have hget : rd_L2 ((cutsG (gridOf cl r c) ph pw).map (cutE ph pw)) (pre.length : Int) = cutE ph pw x := by
            rw [rdL_at (by rw [List.length_map]; exact hil), List.getElem_map]
            congr 1
            simp only [he]
            simp
          have hl4 : (cutE ph pw x).length = 4 := rfl
          have hr0 : rd (cutE ph pw x) 0 = kindI x.1 := rfl
          have hr1 : rd (cutE ph pw x) 1 = (x.2 : Int) := rfl
          rw [List.length_append, List.length_singleton] at hE
          have hwr := wrap_deep (a := a) (b := b) (n := n) ha hb (by omega)
          obtain ⟨s, hs⟩ : ∃ s, deepS cl boxes n r c ph pw (pre.map (moveX r c)) = s := ⟨_, rfl⟩
          rw [hs] at hE hsl ⊢
          have hB := hp.bind (F := fun k bt259 => (spec_l3Deep.f k bt259.1).bind fun t265 => (spec_l3Deep.f k bt259.2).bind fun t266 => (if (bestI s) < 0 then (spec_l3Deep.l0 k p (wrap64 (1 + (mx t265 t266))) ((cutsG (gridOf cl r c) ph pw).map (cutE ph pw)) (wrap64 ((pre.length : Int) + 1))) else (if (wrap64 (1 + (mx t265 t266))) < (bestI s) then (spec_l3Deep.l0 k p (wrap64 (1 + (mx t265 t266))) ((cutsG (gridOf cl r c) ph pw).map (cutE ph pw)) (wrap64 ((pre.length : Int) + 1))) else (spec_l3Deep.l0 k p (bestI s) ((cutsG (gridOf cl r c) ph pw).map (cutE ph pw)) (wrap64 ((pre.length : Int) + 1))))))
            (e1.bind (e2.bind (r := bestI (deepS cl boxes n r c ph pw (cutsL cl r c ph pw))) (by
              simp only [Option.getD_some, hwr]
              rw [wsucc (by omega)]
              exact deep_pick (fun d k => spec_l3Deep.l0 k p d ((cutsG (gridOf cl r c) ph pw).map (cutE ph pw)) ((pre.length + 1 : Nat) : Int)) s a b hE)))
          refine hB.step fun k => ?_
          show spec_l3Deep.l0 (k + 1) _ _ _ _ = _
          conv => lhs; unfold spec_l3Deep.l0
          rw [if_pos (by rw [List.length_map]; omega), if_pos (by omega), hget, hl4, if_pos (by omega), if_pos (by omega), hr0, hr1]
      have := key (cutsG (gridOf cl r c) ph pw) [] rfl
      exact this
end Go.Proofs.Ytiehiockjlhbcaa
