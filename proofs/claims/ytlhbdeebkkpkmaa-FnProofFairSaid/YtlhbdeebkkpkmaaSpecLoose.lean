/- The reference's ProofLoose: it returns what the program's does. Conditions: the list has at most 1000000000 numbers. -/
import Derived.Test.YtlhbdeebkkpkmaaProofLoose
namespace Go.Proofs.Ytlhbdeebkkpkmaa
open Go.RowKit Go.Shelf Go.Proofs.YtlhbdeebkkpkmaaW.PrintWords Go.Proofs.YtlhbdeebkkpkmaaW.PrintMore
set_option linter.unusedVariables false

theorem fourB_tight {p : List Int} {a b c d : Nat} (h1 : a + 1 ≤ b) (h2 : b + 1 ≤ c) (h3 : c + 1 ≤ d) (h4 : d < p.length) : fourB p a b c d = tightOf p (a, b, c, d) := by
  unfold fourB tightOf
  rw [decide_eq_true ⟨by omega, by omega, by omega, by omega, by omega⟩, Bool.true_and]
theorem none_snoc {α : Type} {f : α → Bool} {l : List α} {x : α} (h : ∀ y ∈ l, f y = false) (hx : f x = false) : ∀ y ∈ l ++ [x], f y = false :=
  fun y hy => (List.mem_append.1 hy).elim (h y) (fun e => by rw [List.mem_singleton.1 e]; exact hx)

set_option maxRecDepth 100000 in
set_option maxHeartbeats 4000000 in
theorem specLoose_any (A : Option Addr) (cp : Nat) (p : List Int) (hp : p.length ≤ 1000000000) (w : World) (hr : Kd.C (Kd.int .i64) w A p.length p) (hc : p.length ≤ cp) :
    Calls Try.prog 18 #[.slice A p.length cp] w fun e w' => e = .returned (.tuple #[.string (looseP p).1, .bool (looseP p).2]) ∧ Below w.heap.size w w' := by
  have HR := Aside0.mk hr
  have HPI := Aside0.mk (specPermIn_any A cp p hp w hr hc)
  clear hr
  cases hpm : permInB p with
  | false =>
    have hl : looseP p = (ByteArray.empty, false) := by unfold looseP; rw [hpm]; rfl
    have HL := Aside0.mk hl
    rw [hpm] at HPI
    clear hpm hl
    go_enter Try.func18, Try.ntmps18
    go_wp2_with (go_at_call 29; refine HPI.out.mono ?_; rintro e w1 ⟨rfl, ⟨n1, rfl⟩⟩)
    go_ret2
    exact ⟨by rw [HL.out]; rfl, pw_below_drewN (Below.refl _ _) _⟩
  | true =>
    have HM := Aside0.mk hpm
    rw [hpm] at HPI
    clear hpm
    go_enter Try.func18, Try.ntmps18
    go_wp2_with (go_at_call 29; refine HPI.out.mono ?_; rintro e w1 ⟨rfl, ⟨n1, rfl⟩⟩)
    go_loopw [4] (fun i wr => ∃ a : Nat, i = .int .i64 a ∧ a ≤ p.length ∧ Aside0 (∀ q ∈ foursA p.length a, tightOf p q = false) ∧ Aside0 (Below w.heap.size w wr)) (fun i _ => p.length - (intOf i).toNat)
    case atStart => exact ⟨0, rfl, Nat.zero_le _, ⟨fun q hq => by simp [foursA] at hq⟩, ⟨pw_below_drewN (Below.refl _ _) _⟩⟩
    case round =>
      obtain ⟨a, rfl, ha, hJa, hBa⟩ := hrel
      by_cases hlt : a < p.length
      · go_wp2
        go_loopw [5] (fun i wr => ∃ b : Nat, i = .int .i64 b ∧ a + 1 ≤ b ∧ (b ≤ p.length ∨ b = a + 1) ∧ Aside0 (∀ q ∈ foursA p.length a ++ foursB p.length a b, tightOf p q = false) ∧ Aside0 (Below w.heap.size w wr)) (fun i _ => p.length - (intOf i).toNat)
        case atStart => exact ⟨a + 1, by go_num, by omega, by omega, ⟨by rw [foursB_start]; simpa using hJa.out⟩, hBa⟩
        case round =>
          obtain ⟨b, rfl, hb1, hb2, hJb, hBb⟩ := hrel
          by_cases hltb : b < p.length
          · go_wp2
            go_loopw [6] (fun i wr => ∃ c : Nat, i = .int .i64 c ∧ b + 1 ≤ c ∧ (c ≤ p.length ∨ c = b + 1) ∧ Aside0 (∀ q ∈ foursA p.length a ++ foursB p.length a b ++ foursC p.length a b c, tightOf p q = false) ∧ Aside0 (Below w.heap.size w wr)) (fun i _ => p.length - (intOf i).toNat)
            case atStart => exact ⟨b + 1, by go_num, by omega, by omega, ⟨by rw [foursC_start]; simpa using hJb.out⟩, hBb⟩
            case round =>
              obtain ⟨c, rfl, hc1, hc2, hJc, hBc⟩ := hrel
              by_cases hltc : c < p.length
              · go_wp2
                go_loopw [7] (fun i wr => ∃ d : Nat, i = .int .i64 d ∧ c + 1 ≤ d ∧ (d ≤ p.length ∨ d = c + 1) ∧ Aside0 (∀ q ∈ foursA p.length a ++ foursB p.length a b ++ foursC p.length a b c ++ foursD a b c d, tightOf p q = false) ∧ Aside0 (Below w.heap.size w wr)) (fun i _ => p.length - (intOf i).toNat)
                case atStart => exact ⟨c + 1, by go_num, by omega, by omega, ⟨by rw [foursD_start]; simpa using hJc.out⟩, hBc⟩
                case round =>
                  obtain ⟨d, rfl, hd1, hd2, hJd, hBd⟩ := hrel
                  by_cases hltd : d < p.length
                  · have HF := Aside0.mk (four_any A cp p a b c d hp wr (Kd.C_below HR.out hBd.out) hc)
                    rw [fourB_tight hb1 hc1 hd1 hltd] at HF
                    have HPO := Aside0.mk (pre_ok a b c d p.length hlt hltb hltc hltd hb1 hc1 hd1)
                    cases ht : tightOf p (a, b, c, d) with
                    | false =>
                      rw [ht] at HF
                      have HN := Aside0.mk (none_snoc hJd.out ht)
                      clear ht
                      go_wp2_with (go_at_call 32; refine HF.out.mono ?_; rintro e w2 ⟨rfl, n2, rfl⟩)
                      go_roundw
                      case rel => exact ⟨d + 1, by go_num, by omega, by omega, ⟨by rw [foursD_step _ _ _ _ hd1, ← List.append_assoc]; exact HN.out⟩, ⟨pw_below_drewN hBd.out _⟩⟩
                      case measure => simp [intOf]; omega
                    | true =>
                      rw [ht] at HF
                      have hl : looseP p = (wordsB wFour (f4list (a, b, c, d)), true) := by
                        unfold looseP looseFind; rw [HM.out, if_pos rfl, find_first HPO.out hJd.out ht]
                      have HL := Aside0.mk hl
                      have HSM := Aside0.mk (four_small (q := (a, b, c, d)) HM.out (HPO.out.subset (by simp)))
                      clear ht hl
                      go_wp2_with (go_at_call 32; refine HF.out.mono ?_; rintro e w2 ⟨rfl, n2, rfl⟩)
                      refine (words_any (some ⟨wr.heap.size, 0, none⟩) 4 wFour (f4list (a, b, c, d)) (by decide) (by show 4 ≤ 1000; omega) (rd_f4 (a, b, c, d) HSM.out) _ (cells4_C (World.alloc_heap_new (wr.drewN n2) _)) (Nat.le_refl 4)).mono ?_
                      rintro e w3 ⟨rfl, hb3⟩
                      go_wp2
                      go_ret2
                      refine ⟨by rw [HL.out]; rfl, ?_⟩
                      exact below_step ((pw_below_drewN hBd.out _).alloc (by have := hBd.out.size; simp; omega) _) hb3
                  · go_wp2
                    go_roundw
                    case rel => exact ⟨c + 1, by go_num, by omega, by omega, ⟨by rw [foursC_step _ _ _ _ hc1, ← foursD_end a b c p.length d (by omega) hd2, ← List.append_assoc]; exact hJd.out⟩, hBd⟩
                    case measure => simp [intOf]; omega
              · go_wp2
                go_roundw
                case rel => exact ⟨b + 1, by go_num, by omega, by omega, ⟨by rw [foursB_step _ _ _ hb1, ← foursC_end p.length a b c (by omega) hc2, ← List.append_assoc]; exact hJc.out⟩, hBc⟩
                case measure => simp [intOf]; omega
          · go_wp2
            go_roundw
            case rel => exact ⟨a + 1, by go_num, by omega, ⟨by rw [foursA_step, ← foursB_end p.length a b (by omega) hb2]; exact hJb.out⟩, hBb⟩
            case measure => simp [intOf]; omega
      · have hae : a = p.length := by omega
        have hl : looseP p = (ByteArray.empty, false) := by
          unfold looseP looseFind; rw [HM.out, if_pos rfl, List.find?_eq_none.2 (fun y hy => by rw [hJa.out y (by rw [hae]; exact hy)]; simp)]
        have HL := Aside0.mk hl
        clear hl hae
        go_wp2
        go_ret2
        exact ⟨by rw [HL.out]; rfl, hBa.out⟩
end Go.Proofs.Ytlhbdeebkkpkmaa
