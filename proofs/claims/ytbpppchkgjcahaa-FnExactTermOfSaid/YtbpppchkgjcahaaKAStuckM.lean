/- Texts of this claim's, joined by a program: AStuck, ALetters, ASpecStuck, ACutStuckP, APlanRoom, ASpecTerm, ATermText, ATermOf. -/
import Derived.Test.YtbpppchkgjcahaaKAFirstM
import Derived.Test.YtbpppchkgjcahaaKASpecTextM
import Derived.Test.YtbpppchkgjcahaaKAL11x
import Derived.Test.YtbpppchkgjcahaaKAFoldT
import Derived.Test.YtbpppchkgjcahaaKAFourDM
import Derived.Test.YtbpppchkgjcahaaKAFoursM
import Derived.Deep.RegionHeld3
import Derived.Lib.Builder
section
namespace Go.Proofs.Ytbpppchkgjcahaa
open Go.RowKit Go.Shelf Go.Proofs.YtbpppchkgjcahaaW.PrintWords Go.Proofs.YtbpppchkgjcahaaW.PrintMore
set_option linter.unusedVariables false
set_option linter.unusedSimpArgs false
end Go.Proofs.Ytbpppchkgjcahaa
end
section
namespace Go.Proofs.Ytbpppchkgjcahaa
open Go.RowKit Go.Shelf Go.Proofs.YtbpppchkgjcahaaW.PrintWords Go.Proofs.YtbpppchkgjcahaaW.PrintMore
set_option linter.unusedVariables false
end Go.Proofs.Ytbpppchkgjcahaa
end
section
namespace Go.Proofs.Ytbpppchkgjcahaa
open Go.RowKit Go.Shelf Go.Proofs.YtbpppchkgjcahaaW.PrintWords Go.Proofs.YtbpppchkgjcahaaW.PrintMore
set_option linter.unusedVariables false
set_option linter.unusedSimpArgs false
end Go.Proofs.Ytbpppchkgjcahaa
end
section
namespace Go.Proofs.Ytbpppchkgjcahaa
open Go.RowKit Go.Shelf Go.Proofs.YtbpppchkgjcahaaW.PrintWords Go.Proofs.YtbpppchkgjcahaaW.PrintMore L2
set_option linter.unusedVariables false
set_option linter.unusedSimpArgs false
theorem TG.grid {p : List ByteArray} {h w : Nat} {G : Nat → Nat → Int} (t : TG p h w G) : TextGrid p w (fun n => G (n / w) (n % w)) := by
  have hl := t.len
  have hh := t.high
  have hw := t.wide
  have hrd : ∀ i (hi : i < p.length), rdOf ByteArray.empty p (i : Int) = p[i] := fun i hi => by
    unfold rdOf
    rw [Int.toNat_natCast, List.getD_eq_getElem?_getD, List.getElem?_eq_getElem hi]
    rfl
  refine ⟨by omega, by omega, fun i hi => ?_, fun i c hi hc => ?_, fun n hn => ?_⟩
  · have := t.size i (by omega)
    rwa [hrd i hi] at this
  · have := t.cell i c (by omega) hc
    rw [hrd i hi] at this
    rw [this, (div_row hc).1, (div_row hc).2]
  · refine t.let_ _ _ ?_ (Nat.mod_lt _ (by omega))
    rw [← hl]
    exact Nat.div_lt_of_lt_mul (by rw [Nat.mul_comm]; exact hn)
theorem plan_rooms {p : List ByteArray} (h : planG p = true) : ∃ k, L2.spec_l1Rooms.f k p = some ((boxesP p).length : Int) := by
  have F := planFacts h
  obtain ⟨hT, h1, h3⟩ := textGrid_of F.let_ F.shape
  have hN := named_of F.let_ F.shape F.named
  obtain ⟨k, hk⟩ := rooms_f hT
  change Named (wdP p) (fP p) (p.length * wdP p) at hN
  change L2.spec_l1Rooms.f k p = some (rmx (fP p) (p.length * wdP p)) at hk
  rw [rmx_named hN _ (Nat.le_refl _), scan_len, ← boxesP_scan] at hk
  exact ⟨k, hk⟩
end Go.Proofs.Ytbpppchkgjcahaa
end
section
namespace Go.Proofs.Ytbpppchkgjcahaa
open Go.RowKit Go.Shelf Go.Proofs.YtbpppchkgjcahaaW.PrintWords Go.Proofs.YtbpppchkgjcahaaW.PrintMore
set_option linter.unusedVariables false
theorem plan_roomsE {p : List ByteArray} (h : planG p = true) : Ev (fun n => L2.spec_l1Rooms.f n p) ((boxesP p).length : Int) := by
  obtain ⟨k, hk⟩ := plan_rooms h
  refine ⟨k, fun n hn => ?_⟩
  have hO := up (g := fun k' => L2.spec_l1Rooms.f k' p) (fun k' => L2.spec_l1Rooms.mono p k') hk (n - k)
  rwa [show k + (n - k) = n by omega] at hO
end Go.Proofs.Ytbpppchkgjcahaa
end
section
namespace Go.Proofs.Ytbpppchkgjcahaa
open Go.RowKit Go.Shelf Go.Proofs.YtbpppchkgjcahaaW.PrintWords Go.Proofs.YtbpppchkgjcahaaW.PrintMore
set_option linter.unusedVariables false
set_option linter.unusedSimpArgs false
theorem term_text (cl : Nat → Nat → Int) (boxes : List Box) : ∀ (n : Nat) (R : Rc), (termL cl boxes n R).isSome = (textL cl boxes n R).isSome := by
  intro n
  induction n with
  | zero => intro R; rfl
  | succ n ih =>
    rintro ⟨r, c, ph, pw⟩
    by_cases h1 : (listL boxes (natB r c ph pw) boxes.length).length = 1
    · rw [termL_one h1, textL_one h1]; rfl
    · cases hx : (cutsL cl r c ph pw).head? with
      | none => rw [termL_none h1 hx, textL_none h1 hx]; rfl
      | some x =>
        rw [termL_some h1 hx, textL_some h1 hx]
        have e1 := ih (oneR r c ph pw x)
        have e2 := ih (twoR r c ph pw x)
        cases a1 : termL cl boxes n (oneR r c ph pw x) <;> cases a2 : textL cl boxes n (oneR r c ph pw x) <;> cases b1 : termL cl boxes n (twoR r c ph pw x) <;> cases b2 : textL cl boxes n (twoR r c ph pw x) <;> simp_all
theorem sign_cut (b : Bool) : (⟨#[124, 45]⟩ : ByteArray).extract (kindI b).toNat (wrap64 (kindI b + 1)).toNat = ⟨#[signT b]⟩ := by
  cases b with
  | true =>
    rw [show wrap64 (kindI true + 1) = 2 by unfold kindI wrap64; simp]
    rfl
  | false =>
    rw [show wrap64 (kindI false + 1) = 1 by unfold kindI wrap64; simp]
    rfl
def bytesT (t : Tm) : ByteArray := ⟨(tmText t).toArray⟩
theorem bytesT_size (t : Tm) : (bytesT t).size = (tmText t).length := rfl
theorem bytesT_two (l : Bool) (a b : Tm) : ((((⟨#[40]⟩ : ByteArray) ++ bytesT a) ++ (⟨#[signT l]⟩ : ByteArray)) ++ bytesT b) ++ (⟨#[41]⟩ : ByteArray) = bytesT (.two l a b) := by
  unfold bytesT
  rw [show tmText (.two l a b) = 40 :: (tmText a ++ signT l :: (tmText b ++ [41])) from rfl]
  apply ByteArray.ext
  simp [ByteArray.data_append]
set_option maxHeartbeats 2000000 in
theorem specTerm {cl : Nat → Nat → Int} {boxes : List Box} {h wd : Nat} (f : Flat cl boxes h wd) : ∀ (n : Nat), n ≤ 13 → ∀ (r c ph pw : Nat) (p : List ByteArray), ph + pw < n → Whole cl h wd r c ph pw → TG p ph pw (gridOf cl r c) →
    ∀ v, termL cl boxes n (r, c, ph, pw) = some v → Ev (fun k => L11.spec_l11Cut.f k p) (bytesT v) := by
  intro n
  induction n with
  | zero => intro _ r c ph pw p h0; omega
  | succ n ih =>
    intro hn r c ph pw p hlt hw t v hv
    have hone := one_f t
    rw [grid_one f hw] at hone
    have hone2 := tot_ev hone
    by_cases h1 : (listL boxes (natB r c ph pw) boxes.length).length = 1
    · rw [termL_one h1] at hv
      obtain rfl := Option.some.inj hv
      rw [decide_eq_true h1] at hone2
      refine Ev.now fun k => ?_
      conv => lhs; unfold L11.spec_l11Cut.f
      rw [show spec_l3One.f p = some true from hone2, Option.bind_some, if_pos rfl]
      rfl
    · rw [decide_eq_false h1] at hone2
      have hcut := cut_f t
      have hcg := cuts_grid cl r c ph pw
      cases hx : (cutsG (gridOf cl r c) ph pw).head? with
      | none =>
        have hx2 : (cutsL cl r c ph pw).head? = none := by rw [hcg, List.head?_map, hx]; rfl
        rw [termL_none h1 hx2] at hv
        cases hv
      | some x =>
        have hx2 : (cutsL cl r c ph pw).head? = some (moveX r c x) := by rw [hcg, List.head?_map, hx]; rfl
        rw [hx] at hcut
        have hxm := head_in hx2
        have hxg : x ∈ cutsG (gridOf cl r c) ph pw := List.mem_of_mem_head? (by rw [hx]; rfl)
        have hin := cutsG_in hxg
        obtain ⟨w1, w2⟩ := whole_parts f hw hxm
        obtain ⟨t1, t2⟩ := parts_grid t hxg
        have i1 := one_in hxm
        have i2 := two_in hxm
        rw [termL_some h1 hx2] at hv
        obtain ⟨o1, ho1⟩ : ∃ o, termL cl boxes n (oneR r c ph pw (moveX r c x)) = o := ⟨_, rfl⟩
        obtain ⟨o2, ho2⟩ : ∃ o, termL cl boxes n (twoR r c ph pw (moveX r c x)) = o := ⟨_, rfl⟩
        rw [ho1, ho2] at hv
        cases o1 with
        | none => cases hv
        | some a =>
          cases o2 with
          | none => cases hv
          | some b =>
            obtain rfl := Option.some.inj hv
            have e1 := ih (by omega) _ _ _ _ _ (by have := i1.less; omega) w1 t1 a ho1
            have e2 := ih (by omega) _ _ _ _ _ (by have := i2.less; omega) w2 t2 b ho2
            have m1 := termL_bound cl boxes n _ a ho1
            have m2 := termL_bound cl boxes n _ b ho2
            have n1 := tmText_len a
            have n2 := tmText_len b
            have hpow : 2 ^ n ≤ 2 ^ 13 := Nat.pow_le_pow_right (by omega) (by omega)
            have p13 : 2 ^ 13 = 8192 := rfl
            have s1 : (bytesT a).size ≤ 40000 := by rw [bytesT_size]; omega
            have s2 : (bytesT b).size ≤ 40000 := by rw [bytesT_size]; omega
            have hkind : firstG (some x) = (kindI x.1, (x.2 : Int)) := rfl
            rw [hkind] at hcut
            have hcut2 := tot_ev hcut
            have hp := tot_ev (parts_f t x (by cases hb : x.1 <;> rw [hb] at hin <;> simp at hin ⊢ <;> omega))
            obtain ⟨k1, k2, k3⟩ := kind_cut x.1
            have hmv : (moveX r c x).1 = x.1 := rfl
            rw [hmv]
            have z0 : (⟨#[40]⟩ : ByteArray).size = 1 := rfl
            have zs : (⟨#[signT x.1]⟩ : ByteArray).size = 1 := rfl
            have c1 : 1 + (bytesT a).size ≤ 9223372036854775807 := by omega
            have c2 : ((⟨#[40]⟩ : ByteArray) ++ bytesT a).size + (⟨#[signT x.1]⟩ : ByteArray).size ≤ 9223372036854775807 := by rw [ByteArray.size_append, z0, zs]; omega
            have c3 : (((⟨#[40]⟩ : ByteArray) ++ bytesT a) ++ (⟨#[signT x.1]⟩ : ByteArray)).size + (bytesT b).size ≤ 9223372036854775807 := by rw [ByteArray.size_append, ByteArray.size_append, z0, zs]; omega
            have c4 : ((((⟨#[40]⟩ : ByteArray) ++ bytesT a) ++ (⟨#[signT x.1]⟩ : ByteArray)) ++ bytesT b).size + 1 ≤ 9223372036854775807 := by rw [ByteArray.size_append, ByteArray.size_append, ByteArray.size_append, z0, zs]; omega
            have hU : ∀ k, L11.spec_l11Cut.f (k + 1) p = (L11.spec_l11Cut.f k (partsT p ph x).1).bind fun t111 => (if 1 + t111.size ≤ 9223372036854775807 then (if ((⟨#[40]⟩ : ByteArray) ++ t111).size + (⟨#[signT x.1]⟩ : ByteArray).size ≤ 9223372036854775807 then ((L11.spec_l11Cut.f k (partsT p ph x).2).bind fun t112 => (if (((⟨#[40]⟩ : ByteArray) ++ t111) ++ (⟨#[signT x.1]⟩ : ByteArray)).size + t112.size ≤ 9223372036854775807 then (if ((((⟨#[40]⟩ : ByteArray) ++ t111) ++ (⟨#[signT x.1]⟩ : ByteArray)) ++ t112).size + 1 ≤ 9223372036854775807 then (some (((((⟨#[40]⟩ : ByteArray) ++ t111) ++ (⟨#[signT x.1]⟩ : ByteArray)) ++ t112) ++ (⟨#[41]⟩ : ByteArray))) else none) else none)) else none) else none) := fun k => by
              conv => lhs; unfold L11.spec_l11Cut.f
              rw [show spec_l3One.f p = some false from hone2, Option.bind_some, if_neg (by simp), show spec_l3Cut.f p = some (kindI x.1, (x.2 : Int)) from hcut2, Option.bind_some]
              rw [show spec_l3Parts.f p (kindI x.1) (x.2 : Int) = some (partsT p ph x) from hp, Option.bind_some]
              simp only [if_pos k1, if_pos k2, if_pos k3, sign_cut]
            refine Ev.step (?_ : Ev (fun k => (L11.spec_l11Cut.f k (partsT p ph x).1).bind fun t111 => (if 1 + t111.size ≤ 9223372036854775807 then (if ((⟨#[40]⟩ : ByteArray) ++ t111).size + (⟨#[signT x.1]⟩ : ByteArray).size ≤ 9223372036854775807 then ((L11.spec_l11Cut.f k (partsT p ph x).2).bind fun t112 => (if (((⟨#[40]⟩ : ByteArray) ++ t111) ++ (⟨#[signT x.1]⟩ : ByteArray)).size + t112.size ≤ 9223372036854775807 then (if ((((⟨#[40]⟩ : ByteArray) ++ t111) ++ (⟨#[signT x.1]⟩ : ByteArray)) ++ t112).size + 1 ≤ 9223372036854775807 then (some (((((⟨#[40]⟩ : ByteArray) ++ t111) ++ (⟨#[signT x.1]⟩ : ByteArray)) ++ t112) ++ (⟨#[41]⟩ : ByteArray))) else none) else none)) else none) else none)) (bytesT (.two x.1 a b))) fun k => hU k
            refine Ev.bind e1 ?_
            simp only [if_pos c1, if_pos c2]
            refine Ev.bind e2 ?_
            simp only [if_pos c3, if_pos c4, bytesT_two]
            exact Ev.const _
def termO (p : List ByteArray) : Option Tm := termL (clP p) (boxesP p) 13 (0, 0, p.length, wdP p)
def termOfP (p : List ByteArray) : ByteArray × Bool := if plainP p = true ∧ (boxesP p).length ≤ 7 then (match termO p with | some t => (bytesT t, true) | none => (⟨#[]⟩, false)) else (⟨#[]⟩, false)
theorem plainP_plan {p : List ByteArray} (h : plainP p = true) : planG p = true := by unfold plainP at h; exact (Bool.and_eq_true_iff.1 h).1
theorem termOf_ev (p : List ByteArray) (hp : SmallP p) : Ev (fun k => L11.spec_TermOf.f k p) (termOfP p) := by
  have h5 : L11.spec_l5Plain.f p = some (plainP p) := by
    unfold L11.spec_l5Plain.f spec_WallPlain.f
    rw [if_pos hp]; rfl
  have hC : spec_CutIs.f p = some (cutTextP p).2 := by unfold spec_CutIs.f; rw [if_pos hp]; rfl
  unfold termOfP
  cases hpl : plainP p with
  | false =>
    rw [hpl] at h5
    rw [if_neg (by simp)]
    refine Ev.now fun k => ?_
    unfold L11.spec_TermOf.f
    rw [h5, Option.bind_some, if_neg (by simp)]
  | true =>
    have hpg := plainP_plan hpl
    have f := planFlat hpg
    rw [hpl] at h5
    have hr : spec_l1Rooms.f p = some ((boxesP p).length : Int) := tot_ev (plan_roomsE hpg)
    have e : (cutTextP p).2 = (termO p).isSome := by
      unfold cutTextP
      rw [if_pos hpg]
      exact (term_text (clP p) (boxesP p) 13 (0, 0, p.length, wdP p)).symm
    rw [e] at hC
    cases ht : termO p with
    | none =>
      rw [ht] at hC
      have hC : spec_CutIs.f p = some false := hC
      have : (if True ∧ (boxesP p).length ≤ 7 then (((⟨#[]⟩ : ByteArray), false)) else ((⟨#[]⟩ : ByteArray), false)) = ((⟨#[]⟩ : ByteArray), false) := by split <;> rfl
      simp only
      rw [this]
      refine Ev.now fun k => ?_
      unfold L11.spec_TermOf.f
      rw [h5, Option.bind_some, if_pos rfl, hC, Option.bind_some, if_neg (by simp)]
    | some t =>
      rw [ht] at hC
      have hC : spec_CutIs.f p = some true := hC
      by_cases h7 : (boxesP p).length ≤ 7
      · rw [if_pos ⟨rfl, h7⟩]
        have hE := specTerm f 13 (by omega) 0 0 p.length (wdP p) p (by have := f.high; have := f.wide; omega) f.whole (planTG hpg) t ht
        refine Ev.same (Ev.bind (F := fun k (t116 : ByteArray) => some (t116, true)) hE (Ev.const _)) fun k => ?_
        unfold L11.spec_TermOf.f
        rw [h5, Option.bind_some, if_pos rfl, hC, Option.bind_some, if_pos rfl, hr, Option.bind_some, if_neg (by omega)]
      · rw [if_neg (fun hh => h7 hh.2)]
        refine Ev.now fun k => ?_
        unfold L11.spec_TermOf.f
        rw [h5, Option.bind_some, if_pos rfl, hC, Option.bind_some, if_pos rfl, hr, Option.bind_some, if_pos (by omega)]
end Go.Proofs.Ytbpppchkgjcahaa
end
section
namespace Go.Proofs.Ytbpppchkgjcahaa
open Go.RowKit Go.Shelf Go.Proofs.YtbpppchkgjcahaaW.PrintWords Go.Proofs.YtbpppchkgjcahaaW.PrintMore
set_option linter.unusedVariables false
theorem blk_c {w : World} {b : Nat} {cs : Array Value} {e : TypeId} {fr : Nat × Nat} (h : w.heap[b]? = some (.cells cs e fr)) (j : Nat) : w.cell? ⟨b, j, none⟩ = cs[j]? := Lib.cell_of_heap h j
theorem ret_strT {a b : ByteArray} (h : a = b) : Ending.returned (.string a) = .returned (.string b) := by rw [h]
theorem tm_same {W : World} : ∀ {s t : Tm} {b : Nat}, TmAt W b s → TmAt W b t → tmText s = tmText t := by
  intro s
  induction s with
  | o =>
    intro t b h1 h2
    cases t with
    | o => rfl
    | two l a c =>
      obtain ⟨kb, x, y, g1, _⟩ := h2
      have h1 : W.heap[b]? = _ := h1
      rw [h1] at g1
      injection g1 with g1
      injection g1 with g1
      injection g1 with g1
      simp at g1
  | two l a c ih1 ih2 =>
    intro t b h1 h2
    obtain ⟨kb, x, y, g1, g2, g3, g4, g5, g6⟩ := h1
    cases t with
    | o =>
      have h2 : W.heap[b]? = _ := h2
      rw [h2] at g1
      injection g1 with g1
      injection g1 with g1
      injection g1 with g1
      simp at g1
    | two l' a' c' =>
      obtain ⟨kb', x', y', k1, k2, k3, k4, k5, k6⟩ := h2
      rw [g1] at k1
      injection k1 with k1
      injection k1 with k1
      simp at k1
      obtain ⟨e1, rfl⟩ := k1
      rw [g2] at k2
      rw [g3] at k3
      simp at k2 k3
      subst k2 k3
      have el : l = l' := by cases l <;> cases l' <;> simp at e1 <;> rfl
      subst el
      unfold tmText
      rw [ih1 g5 k5, ih2 g6 k6]
set_option maxRecDepth 100000 in
set_option maxHeartbeats 4000000 in
theorem termText_any : ∀ (t : Tm), tmMany t ≤ 100000 → ∀ (b : Nat) (w : World), TmAt w b t →
    Calls Try.prog 72 #[.pointer (some ⟨b, 0, none⟩)] w fun e w' => e = .returned (.string ⟨(tmText t).toArray⟩) ∧ Below w.heap.size w w' := by
  intro t
  induction t with
  | o =>
    intro _ b w hb
    have c0 : w.cell? ⟨b, 0, none⟩ = some (.int .u8 111) := blk_c hb 0
    have c1 : w.cell? ⟨b, 1, none⟩ = some (.slice none 0 0) := blk_c hb 1
    clear hb
    go_enter Try.func72, Try.ntmps72
    go_wp2
    go_ret
    exact ⟨rfl, Below.refl _ _⟩
  | two l s t ih1 ih2 =>
    intro hm b w hT
    have hmm : tmMany s + tmMany t ≤ 100000 := hm
    have h1 := tmText_len s
    have h2 := tmText_len t
    obtain ⟨kb, x, y, g1, g2, g3, g4, g5, g6⟩ := hT
    have hsb : ((if l then 45 else 124 : Int) = 45 ∧ signT l = 45) ∨ ((if l then 45 else 124 : Int) = 124 ∧ signT l = 124) := by cases l <;> decide
    obtain ⟨sg, hsg⟩ : ∃ sg : Int, (if l then 45 else 124) = sg := ⟨_, rfl⟩
    rw [hsg] at g1 hsb
    clear hsg
    have c0 : w.cell? ⟨b, 0, none⟩ = some (.int .u8 sg) := blk_c g1 0
    have c1 : w.cell? ⟨b, 1, none⟩ = some (.slice (some ⟨kb, 0, none⟩) 2 2) := blk_c g1 1
    have hbl := (Array.getElem?_eq_some_iff.1 g1).1
    have HC4 : Aside0 (∀ W, Below w.heap.size w W → W.cell? ⟨b, 0, none⟩ = some (.int .u8 sg) ∧ W.cell? ⟨b, 1, none⟩ = some (.slice (some ⟨kb, 0, none⟩) 2 2) ∧ W.cell? ⟨kb, 0, none⟩ = some (.pointer (some ⟨x, 0, none⟩)) ∧ W.cell? ⟨kb, 1, none⟩ = some (.pointer (some ⟨y, 0, none⟩))) := ⟨fun W hW => ⟨(hW.cell (p := ⟨b, 0, none⟩) hbl).trans c0, (hW.cell (p := ⟨b, 1, none⟩) hbl).trans c1, (hW.cell (p := ⟨kb, 0, none⟩) g4).trans g2, (hW.cell (p := ⟨kb, 1, none⟩) g4).trans g3⟩⟩
    have HZ : Aside0 (∀ z W, Below w.heap.size w W → (z = x ∨ z = y) → Calls Try.prog 72 #[.pointer (some ⟨z, 0, none⟩)] W fun e w' => ∃ r : List UInt8, e = .returned (.string ⟨r.toArray⟩) ∧ (z = x → r = tmText s) ∧ (z = y → r = tmText t) ∧ Below w.heap.size w w') := ⟨by
      intro z W hW hz
      by_cases hx : z = x
      · subst hx
        refine (ih1 (by omega) z W (g5.below hW)).mono ?_
        rintro e w' ⟨rfl, hb⟩
        refine ⟨_, rfl, fun _ => rfl, fun e => ?_, hW.trans (hb.mono hW.size)⟩
        subst e
        exact tm_same g5 g6
      · obtain rfl : z = y := hz.resolve_left hx
        refine (ih2 (by omega) z W (g6.below hW)).mono ?_
        rintro e w' ⟨rfl, hb⟩
        exact ⟨_, rfl, fun e => absurd e hx, fun _ => rfl, hW.trans (hb.mono hW.size)⟩⟩
    clear ih1 ih2 g1 g2 g3 g4 g5 g6 hbl c0 c1
    obtain ⟨c0, c1, c2, c3⟩ := HC4.out w (Below.refl _ _)
    have HR : Aside0 (∀ r1 r2 : List UInt8, (x = x → r1 = tmText s) → (y = y → r2 = tmText t) → ((⟨#[40]⟩ : ByteArray) ++ ⟨r1.toArray⟩ ++ ⟨#[signT l]⟩ ++ ⟨r2.toArray⟩ ++ ⟨#[41]⟩) = ⟨(tmText (.two l s t)).toArray⟩) := ⟨by
      intro r1 r2 e1 e2
      rw [e1 rfl, e2 rfl, show tmText (.two l s t) = 40 :: (tmText s ++ signT l :: (tmText t ++ [41])) from rfl]
      apply ByteArray.ext
      simp [ByteArray.data_append]⟩
    have hl1 : (tmText s).length ≤ 400000 := by omega
    have hl2 : (tmText t).length ≤ 400000 := by omega
    have HLN := Aside0.mk (And.intro hl1 hl2)
    clear h1 h2 hm hmm hl1 hl2
    rcases hsb with ⟨rfl, hq⟩ | ⟨rfl, hq⟩
    · have hen : Utf8.encode 45 = ⟨#[45]⟩ := rfl
      rw [hq] at HR
      clear hq
      go_enter Try.func72, Try.ntmps72
      go_wp2_with fail
      go_region_held3 (fun w' => w'.cell? ⟨b, 0, none⟩ = some (.int .u8 45) ∧ w'.cell? ⟨b, 1, none⟩ = some (.slice (some ⟨kb, 0, none⟩) 2 2) ∧ w'.cell? ⟨kb, 0, none⟩ = some (.pointer (some ⟨x, 0, none⟩)) ∧ w'.cell? ⟨kb, 1, none⟩ = some (.pointer (some ⟨y, 0, none⟩))) (first
        | exact ⟨c0, c1, c2, c3⟩
        | exact HC4.out _ HB2.out
        | exact HC4.out _ HB1.out
        | (go_simp)) (first
        | (go_at_call 72; have hg1 := HB1.out; clear hg1; refine Calls.mono (HZ.out y _ (by repeat (first | exact HB1.out | apply pw_below_drewN)) (.inr rfl)) ?_; rintro e w2 ⟨r2, rfl, _, he2, hb2⟩; have hrl : r2.length ≤ 400000 := (by rw [he2 rfl]; exact HLN.out.2); have hs3 : ¬ 9223372036854775807 < 1 + r1.length + 1 + r2.length := (by have := HL1.out; omega); have hs9 : ¬ 9223372036854775807 < 1 + r1.length + (Utf8.encode (IntKind.i32.wrap 45)).size + r2.length := (by have h9 : (Utf8.encode (IntKind.i32.wrap 45)).size = 1 := rfl; have := HL1.out; omega); have hs10 : ¬ 9223372036854775807 < 1 + r1.length + (Utf8.encode (IntKind.i32.wrap 45)).size + r2.length + 1 := (by have h9 : (Utf8.encode (IntKind.i32.wrap 45)).size = 1 := rfl; have := HL1.out; omega); have hs4 : ¬ 9223372036854775807 < 1 + r1.length + 1 + r2.length + 1 := (by have := HL1.out; omega); have HB2 := Aside0.mk hb2; have HE2 := Aside0.mk he2; clear hb2 he2 hrl)
        | (go_at_call 72; refine Calls.mono (HZ.out x _ (by repeat (first | exact Below.refl _ _ | apply pw_below_drewN)) (.inl rfl)) ?_; rintro e w1 ⟨r1, rfl, he1, _, hb1⟩; have hrl : r1.length ≤ 400000 := (by rw [he1 rfl]; exact HLN.out.1); have hs1 : ¬ 9223372036854775807 < 1 + r1.length := (by omega); have hs2 : ¬ 9223372036854775807 < 1 + r1.length + 1 := (by omega); have hs5 : ¬ 9223372036854775806 < 1 + r1.length := (by omega); have hs6 : ¬ 9223372036854775805 < r1.length := (by omega); have hs8 : ¬ 9223372036854775807 < 1 + r1.length + (Utf8.encode (IntKind.i32.wrap 45)).size := (by have : (Utf8.encode (IntKind.i32.wrap 45)).size = 1 := rfl; omega); have hs7 : ¬ 9223372036854775806 < r1.length := (by omega); have HL1 := Aside0.mk hrl; have HB1 := Aside0.mk hb1; have HE1 := Aside0.mk he1; clear hb1 he1 hrl))
      all_goals
        go_wp2
        go_ret
        exact ⟨ret_strT (HR.out r1 r2 HE1.out HE2.out), HB2.out⟩
    · have hen : Utf8.encode 124 = ⟨#[124]⟩ := rfl
      rw [hq] at HR
      clear hq
      go_enter Try.func72, Try.ntmps72
      go_wp2_with fail
      go_region_held3 (fun w' => w'.cell? ⟨b, 0, none⟩ = some (.int .u8 124) ∧ w'.cell? ⟨b, 1, none⟩ = some (.slice (some ⟨kb, 0, none⟩) 2 2) ∧ w'.cell? ⟨kb, 0, none⟩ = some (.pointer (some ⟨x, 0, none⟩)) ∧ w'.cell? ⟨kb, 1, none⟩ = some (.pointer (some ⟨y, 0, none⟩))) (first
        | exact ⟨c0, c1, c2, c3⟩
        | exact HC4.out _ HB2.out
        | exact HC4.out _ HB1.out
        | (go_simp)) (first
        | (go_at_call 72; have hg1 := HB1.out; clear hg1; refine Calls.mono (HZ.out y _ (by repeat (first | exact HB1.out | apply pw_below_drewN)) (.inr rfl)) ?_; rintro e w2 ⟨r2, rfl, _, he2, hb2⟩; have hrl : r2.length ≤ 400000 := (by rw [he2 rfl]; exact HLN.out.2); have hs3 : ¬ 9223372036854775807 < 1 + r1.length + 1 + r2.length := (by have := HL1.out; omega); have hs9 : ¬ 9223372036854775807 < 1 + r1.length + (Utf8.encode (IntKind.i32.wrap 124)).size + r2.length := (by have h9 : (Utf8.encode (IntKind.i32.wrap 124)).size = 1 := rfl; have := HL1.out; omega); have hs10 : ¬ 9223372036854775807 < 1 + r1.length + (Utf8.encode (IntKind.i32.wrap 124)).size + r2.length + 1 := (by have h9 : (Utf8.encode (IntKind.i32.wrap 124)).size = 1 := rfl; have := HL1.out; omega); have hs4 : ¬ 9223372036854775807 < 1 + r1.length + 1 + r2.length + 1 := (by have := HL1.out; omega); have HB2 := Aside0.mk hb2; have HE2 := Aside0.mk he2; clear hb2 he2 hrl)
        | (go_at_call 72; refine Calls.mono (HZ.out x _ (by repeat (first | exact Below.refl _ _ | apply pw_below_drewN)) (.inl rfl)) ?_; rintro e w1 ⟨r1, rfl, he1, _, hb1⟩; have hrl : r1.length ≤ 400000 := (by rw [he1 rfl]; exact HLN.out.1); have hs1 : ¬ 9223372036854775807 < 1 + r1.length := (by omega); have hs2 : ¬ 9223372036854775807 < 1 + r1.length + 1 := (by omega); have hs5 : ¬ 9223372036854775806 < 1 + r1.length := (by omega); have hs6 : ¬ 9223372036854775805 < r1.length := (by omega); have hs8 : ¬ 9223372036854775807 < 1 + r1.length + (Utf8.encode (IntKind.i32.wrap 124)).size := (by have : (Utf8.encode (IntKind.i32.wrap 124)).size = 1 := rfl; omega); have hs7 : ¬ 9223372036854775806 < r1.length := (by omega); have HL1 := Aside0.mk hrl; have HB1 := Aside0.mk hb1; have HE1 := Aside0.mk he1; clear hb1 he1 hrl))
      all_goals
        go_wp2
        go_ret
        exact ⟨ret_strT (HR.out r1 r2 HE1.out HE2.out), HB2.out⟩
end Go.Proofs.Ytbpppchkgjcahaa
end
section
namespace Go.Proofs.Ytbpppchkgjcahaa
open Go.RowKit Go.Shelf Go.Proofs.YtbpppchkgjcahaaW.PrintWords Go.Proofs.YtbpppchkgjcahaaW.PrintMore
set_option linter.unusedVariables false
set_option linter.unusedSimpArgs false
theorem roomsLen (w : World) (fb h wd : Nat) (cl : Nat → Nat → Int) (boxes : List Box) (hf : FloorR w fb h wd cl boxes) : ∃ A c, w.cell? ⟨fb, 1, none⟩ = some (.slice A boxes.length c) := by
  obtain ⟨g0, rb0, RA, rc, h1, h2, h3, h4, h5, h6⟩ := hf
  exact ⟨_, _, h4⟩
set_option maxRecDepth 100000 in
set_option maxHeartbeats 8000000 in
theorem termOf_any (A : Option Addr) (cap : Nat) (p : List ByteArray) (hp : SmallP p) (w : World) (hr0 : Kd.C Kd.string w A p.length p) (hc0 : p.length ≤ cap) :
    Calls Try.prog 18 #[.slice A p.length cap] w fun e w' => e = .returned (.tuple #[.string (termOfP p).1, .bool (termOfP p).2]) ∧ Below w.heap.size w w' := by
  have HPL := plainOf_any A cap p hp w hr0 hc0
  clear hr0
  go_enter Try.func18, Try.ntmps18
  go_wp2_with fail
  refine HPL.mono ?_
  rintro e w1 ⟨hb1, ⟨hpl, fb, rfl, hfl⟩ | ⟨hpl, o, rfl⟩⟩
  · have hpg := plainP_plan hpl
    have HB1 := Aside0.mk hb1
    have F := Aside0.mk (planFlat hpg)
    have hh := (planFlat hpg).high
    have hw := (planFlat hpg).wide
    have hfew := (planFlat hpg).few
    have HWH := Aside0.mk (whole_any fb p.length (wdP p) (clP p) (boxesP p) w1 hfl (by omega) (by omega))
    have HFO := Aside0.mk (fun W (hW : Below w1.heap.size w1 W) => foldedT_any fb p.length (wdP p) (clP p) (boxesP p) hh.2 hw.2 F.out.boxIn F.out.few 13 (by omega) 0 0 p.length (wdP p) (by omega) (by omega) (by omega) W (hfl.below hW))
    obtain ⟨RA, rc, h4⟩ := roomsLen _ _ _ _ _ _ hfl
    obtain ⟨m, hm⟩ : ∃ m, (boxesP p).length = m := ⟨_, rfl⟩
    have HV : Aside0 (termOfP p = if m ≤ 7 then (match termO p with | some t => (bytesT t, true) | none => (⟨#[]⟩, false)) else (⟨#[]⟩, false)) := ⟨by unfold termOfP; rw [hpl, hm]; simp only [true_and]; try rfl⟩
    rw [hm] at h4 hfew
    have HT : Aside0 (∀ t, termO p = some t → tmMany t ≤ 8192) := ⟨fun t ht => termL_bound _ _ 13 _ t ht⟩
    clear hb1 hpl hpg hfl hm
    by_cases h7 : 7 < m
    · have h8 : (7 : Int) < (m : Int) := by omega
      have HV2 : Aside0 (termOfP p = (⟨#[]⟩, false)) := ⟨by rw [HV.out, if_neg (by omega)]⟩
      clear h7
      go_wp2_with fail
      go_ret2
      exact ⟨by rw [HV2.out]; rfl, HB1.out⟩
    · have h8 : ¬ (7 : Int) < (m : Int) := by omega
      have HV2 : Aside0 (termOfP p = match termO p with | some t => (bytesT t, true) | none => (⟨#[]⟩, false)) := ⟨by rw [HV.out, if_pos (by omega)]⟩
      clear h7
      go_wp2_with fail
      refine HWH.out.mono ?_
      rintro e w2 ⟨rfl, hb2⟩
      have HB2 := Aside0.mk hb2
      clear hb2
      go_wp2_with fail
      refine (HFO.out _ HB2.out).mono ?_
      rintro e w3 ⟨hE, hb3⟩
      have HB3 := Aside0.mk (HB1.out.trans ((HB2.out.trans (hb3.mono HB2.out.size)).mono HB1.out.size))
      clear hb3
      have hO : termL (clP p) (boxesP p) 13 (0, 0, p.length, wdP p) = termO p := rfl
      rw [hO] at hE
      obtain ⟨o, ho⟩ : ∃ o, termO p = o := ⟨_, rfl⟩
      rw [ho] at hE HV2 HT
      clear hO ho
      cases o with
      | none =>
        obtain rfl := hE
        go_wp2_with fail
        go_ret2
        exact ⟨by rw [HV2.out]; rfl, HB3.out⟩
      | some t =>
        obtain ⟨b, rfl, ht⟩ := hE
        have HTX := Aside0.mk (termText_any t (by have := HT.out t rfl; omega) b w3 ht)
        clear ht
        go_wp2_with fail
        refine HTX.out.mono ?_
        rintro e w4 ⟨rfl, hb4⟩
        have HB4 := Aside0.mk (HB3.out.trans (hb4.mono HB3.out.size))
        clear hb4
        go_wp2_with fail
        go_ret2
        exact ⟨by rw [HV2.out]; rfl, HB4.out⟩
  · have HB1 := Aside0.mk hb1
    have HV : Aside0 (termOfP p = (⟨#[]⟩, false)) := ⟨by unfold termOfP; rw [hpl, if_neg (by simp)]⟩
    clear hb1 hpl
    go_wp2_with fail
    go_ret2
    exact ⟨by rw [HV.out]; rfl, HB1.out⟩
def impl_TermOf.f (l0 : List ByteArray) : Option (ByteArray × Bool) := if SmallP l0 then some (termOfP l0) else none
theorem impl_TermOf.calls (A0 : Option Addr) (c0 : Nat) (l0 : List ByteArray) (r1 : ByteArray) (r2 : Bool) (w : World) (hr0 : Kd.C Kd.string w A0 l0.length l0) (hc0 : l0.length ≤ c0) (h : impl_TermOf.f l0 = some (r1, r2)) :
    Calls Try.prog 18 #[.slice A0 l0.length c0] w fun e w' => e = .returned (.tuple #[.string r1, .bool r2]) ∧ Below w.heap.size w w' := by
  unfold impl_TermOf.f at h
  split at h
  · rename_i hb
    injection h with h
    have := termOf_any A0 c0 l0 hb w hr0 hc0
    rw [h] at this
    exact this
  · cases h
def spec_TermOf.f (l0 : List ByteArray) : Option (ByteArray × Bool) := if SmallP l0 then some (termOfP l0) else none
theorem spec_TermOf.calls (A0 : Option Addr) (c0 : Nat) (l0 : List ByteArray) (r1 : ByteArray) (r2 : Bool) (w : World) (hr0 : Kd.C Kd.string w A0 l0.length l0) (hc0 : l0.length ≤ c0) (h : spec_TermOf.f l0 = some (r1, r2)) :
    Calls Try.prog 16 #[.slice A0 l0.length c0] w fun e w' => e = .returned (.tuple #[.string r1, .bool r2]) ∧ Below w.heap.size w w' := by
  unfold spec_TermOf.f at h
  split at h
  · rename_i hb
    injection h with h
    obtain ⟨k, hk⟩ := (termOf_ev l0 hb).ex
    exact L11.spec_TermOf.calls k A0 c0 l0 r1 r2 w hr0 hc0 (by rw [hk, h])
  · cases h
end Go.Proofs.Ytbpppchkgjcahaa
end
