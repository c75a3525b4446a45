/- The reference's drawn permutations with a text: some short text beside them. Conditions: the code's bytes are read. -/
import Derived.Test.YtlhbdeebkkpkmaaDrawOne
import Derived.Test.YtlhbdeebkkpkmaaSpecFair
import Derived.Test.YtlhbdeebkkpkmaaSpecLoose
namespace Go.Proofs.Ytlhbdeebkkpkmaa
open Go.RowKit Go.Shelf Go.Proofs.YtlhbdeebkkpkmaaW.PrintWords Go.Proofs.YtlhbdeebkkpkmaaW.PrintMore
set_option linter.unusedVariables false

set_option maxRecDepth 100000 in
set_option maxHeartbeats 4000000 in
theorem of_any (b : Nat) (q : Int) (w0 w : World) (h : Reader w0 w b q) (hq : 0 ≤ q ∧ q ≤ 100000) (B N : Nat) (hN : 1 ≤ N ∧ N ≤ 100) (ss : List ByteArray) (hss : ss.length = N) (hB : B ≠ b)
    (hc : ∀ i x, ss[i]? = some x → w.cell? ⟨B, i, none⟩ = some (.string x)) :
    Calls Try.prog 43 #[.pointer (some ⟨b, 0, none⟩), .slice (some ⟨B, 0, none⟩) N N] w fun e w' => ∃ s, s ∈ ss ∧ e = .returned (.string s) ∧ Below w0.heap.size w0 w' ∧ ∀ j, j ≠ b → w'.heap[j]? = w.heap[j]? := by
  have HP := pick_rd b q N w0 w h hq ⟨by omega, by omega⟩
  have HC := Aside0.mk hc
  have HB := Aside0.mk hB
  have HS := Aside0.mk hss
  clear h hc hB hss hq
  go_enter Try.func43, Try.ntmps43
  go_wp2_with fail
  refine HP.mono ?_
  rintro e w1 ⟨k, rfl, hk, H1, H2, H3, H4⟩
  have hl : k < ss.length := by have := HS.out; omega
  have hcell : w1.cell? ⟨B, k, none⟩ = some (.string ss[k]) := by
    rw [← HC.out k ss[k] (List.getElem?_eq_getElem hl)]
    exact World.cell?_of_block (H3.out B HB.out)
  have hk0 : (0 : Int) ≤ (k : Int) := by omega
  go_wp2_with fail
  go_ret
  exact ⟨ss[k], List.getElem_mem hl, rfl, H2.out, H3.out⟩

/-- A list of 1 to 8 small numbers in memory that is new since w, and a short text. -/
def Drew2 (w w' : World) (e : Ending) : Prop := ∃ (k : Nat) (v : Value) (s : ByteArray), e = .returned (.tuple #[v, .string s]) ∧ 1 ≤ k ∧ k ≤ 8 ∧ s.size ≤ 1000 ∧ Row w' w.heap.size k v ∧ Below w.heap.size w w'

theorem looseP_size (p : List Int) : (looseP p).1.size ≤ 1000 := by
  unfold looseP
  split
  · split
    · dsimp only; rw [wordsB_size]; simp [f4list]; decide
    · decide
  · decide
theorem fairP_size (p : List Int) : (fairP p).1.size ≤ 1000 := by
  unfold fairP
  split
  · split
    · dsimp only; rw [wordsB_size]; simp [t3text]; decide
    · decide
  · decide

theorem str_cells {W : World} {B : Nat} {cs : Array Value} {t : TypeId} (h : W.heap[B]? = some (.cells cs t (0, 0))) (ss : List ByteArray) (he : cs = (ss.map Value.string).toArray) :
    ∀ i x, ss[i]? = some x → W.cell? ⟨B, i, none⟩ = some (.string x) := by
  intro i x hx
  subst he
  simp [World.cell?, h, hx]
theorem Reader.set {w0 w : World} {b : Nat} {q : Int} (h : Reader w0 w b q) (q' : Int) : Reader w0 (w.setCell ⟨b, 1, none⟩ (.int .i64 q')) b q' := by
  obtain ⟨A, n, cap, bs, h1, h2, h3, h4, h5, h6⟩ := h
  exact ⟨A, n, cap, bs, h1.set q', h2, h3, h4, h5.setCell (p := ⟨b, 1, none⟩) h4 _, h6⟩
theorem Reader.alloc {w0 w : World} {b : Nat} {q : Int} (h : Reader w0 w b q) (o : Obj) : Reader w0 (w.alloc o) b q := by
  obtain ⟨A, n, cap, bs, h1, h2, h3, h4, h5, h6⟩ := h
  exact ⟨A, n, cap, bs, h1.below ((Below.refl _ _).alloc (Nat.le_refl _) _), h2, h3, h4, h5.alloc h5.size _, h6⟩
theorem Reader.field {w0 w : World} {b : Nat} {q : Int} (h : Reader w0 w b q) : ∃ v, w.heap[b]? = some (.cells #[v, .int .i64 q] 48 (0, 0)) := by
  obtain ⟨A, n, cap, bs, h1, _⟩ := h
  exact ⟨_, h1⟩

theorem new_at {w : World} {o : Obj} {B : Nat} (h : B = w.heap.size) : (w.alloc o).heap[B]? = some o := by rw [h]; exact heap_alloc_new w o
theorem row_on {w w1 w2 w' : World} {k : Nat} {v : Value} (HR : Row w1 w.heap.size k v) (h1 : Below w1.heap.size w1 w2) (h2 : Below w2.heap.size w2 w') : Row w' w.heap.size k v :=
  HR.move (fun j _ hj => (h1.trans (h2.mono h1.size)).block j hj)
theorem Reader.lt {w0 w : World} {b : Nat} {q : Int} (h : Reader w0 w b q) : b < w.heap.size := by
  obtain ⟨v, hv⟩ := h.field
  exact (Array.getElem?_eq_some_iff.1 hv).1
theorem Reader.bel {w0 w : World} {b : Nat} {q : Int} (h : Reader w0 w b q) : Below w0.heap.size w0 w := by
  obtain ⟨A, n, cap, bs, h1, h2, h3, h4, h5, h6⟩ := h
  exact h5
def looseTexts : List ByteArray := [⟨#[102, 111, 117, 114, 32, 48, 32, 49, 32, 50, 32, 51]⟩, ⟨#[102, 111, 117, 114, 32, 49, 32, 50, 32, 51, 32, 52]⟩, ⟨#[102, 111, 117, 114, 32, 48, 32, 50, 32, 49, 32, 51]⟩, ⟨#[102, 111, 117, 114, 32, 48, 32, 49, 32, 50]⟩, ⟨#[102, 111, 117, 114]⟩, ⟨#[102, 111, 117, 114, 32, 48, 32, 49, 32, 50, 32, 51, 51]⟩, ⟨#[]⟩, ⟨#[120]⟩]
def fairTexts : List ByteArray := [⟨#[98, 114, 101, 97, 107, 32, 48, 32, 49, 32, 51]⟩, ⟨#[98, 114, 101, 97, 107, 32, 48, 32, 49, 32, 50]⟩, ⟨#[98, 114, 101, 97, 107, 32, 49, 32, 50, 32, 52]⟩, ⟨#[98, 114, 101, 97, 107, 32, 48, 32, 50, 32, 52]⟩, ⟨#[98, 114, 101, 97, 107]⟩, ⟨#[98, 114, 101, 97, 107, 32, 48, 48, 32, 49, 32, 51]⟩, ⟨#[98, 114, 101, 97, 107, 32, 48, 32, 49, 32, 51, 32]⟩, ⟨#[]⟩, ⟨#[120]⟩]
theorem looseTexts_small : ∀ s, s ∈ looseTexts → s.size ≤ 1000 := fun s hs => of_decide_eq_true (List.all_eq_true.1 (show looseTexts.all (fun x => decide (x.size ≤ 1000)) = true by decide) s hs)
theorem fairTexts_small : ∀ s, s ∈ fairTexts → s.size ≤ 1000 := fun s hs => of_decide_eq_true (List.all_eq_true.1 (show fairTexts.all (fun x => decide (x.size ≤ 1000)) = true by decide) s hs)
set_option maxRecDepth 100000 in
set_option maxHeartbeats 8000000 in
theorem drawLooseIs_any (A : Option Addr) (n cap : Nat) (bs : List Int) (w : World) (h : Code0 w A n cap bs) :
    Calls Try.prog 20 #[.slice A n cap] w fun e w' => Drew2 w w' e := by
  have H := Aside0.mk h
  clear h
  go_enter Try.func20, Try.ntmps20
  go_wp2_with fail
  refine (one_any A n cap bs _ H.out).mono ?_
  rintro e w1 ⟨kk, v, rfl, a1, a2, a3, a4⟩
  obtain ⟨g, c, rfl⟩ := a3.form (by omega)
  obtain ⟨xs, x1, x2, x3⟩ := a3.reads
  have X1 := Aside0.mk x1
  have HR := Aside0.mk a3
  have HB := Aside0.mk a4
  have HCALL := specLoose_any (some ⟨g, 0, none⟩) c xs (by omega) w1 (by rw [x1]; exact x3) (by rw [x1]; exact a3.cap.2.1)
  rw [x1] at HCALL
  clear x1 x2 x3 a3 a4
  go_wp2_with fail
  refine HCALL.mono ?_
  rintro e w2 ⟨rfl, h2⟩
  have HB2 : Aside0 (Below w1.heap.size w1 w2) := ⟨h2⟩
  have HB3 : Aside0 (Below w.heap.size w w2) := ⟨HB.out.trans (h2.mono HB.out.size)⟩
  have HSZ := Aside0.mk (looseP_size xs)
  obtain ⟨tx, htx⟩ : ∃ tx, (looseP xs).1 = tx := ⟨_, rfl⟩
  rw [htx] at HSZ
  rw [htx]
  clear h2 htx HCALL
  have HO := open_rd A n cap bs w2 (H.out.below HB3.out)
  cases hok : (looseP xs).2 with
  | false =>
    go_wp2_with fail
    refine HO.mono ?_
    rintro e w3 ⟨rfl, h3, h4⟩
    obtain ⟨fv, hfv⟩ := h3.field
    have c1 : w3.cell? ⟨w2.heap.size, 1, none⟩ = some (.int .i64 0) := by rw [Lib.cell_of_heap hfv]; rfl
    have z1 : w3.frozen? ⟨w2.heap.size, 1, none⟩ = false := Lib.frozen_of_heap hfv 1
    have HRD := Aside0.mk (h3.set 61)
    have H4 := Aside0.mk h4
    clear h3 h4 hfv HO
    go_wp2_with fail
    refine Calls.mono (of_any w2.heap.size 61 w2 _ ?hR ⟨by omega, by omega⟩ _ 8 ⟨by omega, by omega⟩ looseTexts rfl ?hB ?hC) ?_
    case hR => exact HRD.out.alloc _
    case hC => exact str_cells (new_at (by simp)) looseTexts rfl
    case hB => have := HRD.out.lt; (try simp at this); intro e; omega
    rintro e w5 ⟨s, hs, rfl, h5, _⟩
    have H5 := Aside0.mk h5
    have HS := Aside0.mk (looseTexts_small s hs)
    clear h5 hs
    go_wp2_with fail
    go_ret2
    exact ⟨kk, _, s, rfl, a1, a2, HS.out, row_on HR.out HB2.out H5.out, HB3.out.trans (H5.out.mono HB3.out.size)⟩
  | true =>
    go_wp2_with fail
    refine HO.mono ?_
    rintro e w3 ⟨rfl, h3, h4⟩
    obtain ⟨fv, hfv⟩ := h3.field
    have c1 : w3.cell? ⟨w2.heap.size, 1, none⟩ = some (.int .i64 0) := by rw [Lib.cell_of_heap hfv]; rfl
    have z1 : w3.frozen? ⟨w2.heap.size, 1, none⟩ = false := Lib.frozen_of_heap hfv 1
    have HRD := Aside0.mk (h3.set 61)
    have H4 := Aside0.mk h4
    clear h3 h4 hfv HO
    go_wp2_with fail
    refine (pick_rd w2.heap.size 61 5 w2 _ HRD.out ⟨by omega, by omega⟩ ⟨by omega, by omega⟩).mono ?_
    rintro e w4 ⟨kz, rfl, hkz, H5, H6, H7, H8⟩
    by_cases h0 : kz = 0
    case neg =>
      have h0' : ((kz : Int) == 0) = false := by rw [beq_eq_false_iff_ne]; omega
      go_wp2_with fail
      go_ret2
      exact ⟨kk, _, tx, rfl, a1, a2, HSZ.out, row_on HR.out HB2.out H6.out, HB3.out.trans (H6.out.mono HB3.out.size)⟩
    case pos =>
      subst h0
      go_wp2_with fail
      refine Calls.mono (of_any w2.heap.size (61 + 1) w2 _ ?hR ⟨by omega, by omega⟩ _ 8 ⟨by omega, by omega⟩ looseTexts rfl ?hB ?hC) ?_
      case hR => exact H5.out.alloc _
      case hC => exact str_cells (new_at (by simp)) looseTexts rfl
      case hB => have := H5.out.lt; (try simp at this); intro e; omega
      rintro e w5 ⟨s, hs, rfl, h5, _⟩
      have H5 := Aside0.mk h5
      have HS := Aside0.mk (looseTexts_small s hs)
      clear h5 hs
      go_wp2_with fail
      go_ret2
      exact ⟨kk, _, s, rfl, a1, a2, HS.out, row_on HR.out HB2.out H5.out, HB3.out.trans (H5.out.mono HB3.out.size)⟩
set_option maxRecDepth 100000 in
set_option maxHeartbeats 8000000 in
theorem drawFairIs_any (A : Option Addr) (n cap : Nat) (bs : List Int) (w : World) (h : Code0 w A n cap bs) :
    Calls Try.prog 25 #[.slice A n cap] w fun e w' => Drew2 w w' e := by
  have H := Aside0.mk h
  clear h
  go_enter Try.func25, Try.ntmps25
  go_wp2_with fail
  refine (one_any A n cap bs _ H.out).mono ?_
  rintro e w1 ⟨kk, v, rfl, a1, a2, a3, a4⟩
  obtain ⟨g, c, rfl⟩ := a3.form (by omega)
  obtain ⟨xs, x1, x2, x3⟩ := a3.reads
  have X1 := Aside0.mk x1
  have HR := Aside0.mk a3
  have HB := Aside0.mk a4
  have HCALL := specFair_any (some ⟨g, 0, none⟩) c xs (by omega) w1 (by rw [x1]; exact x3) (by rw [x1]; exact a3.cap.2.1)
  rw [x1] at HCALL
  clear x1 x2 x3 a3 a4
  go_wp2_with fail
  refine HCALL.mono ?_
  rintro e w2 ⟨rfl, h2⟩
  have HB2 : Aside0 (Below w1.heap.size w1 w2) := ⟨h2⟩
  have HB3 : Aside0 (Below w.heap.size w w2) := ⟨HB.out.trans (h2.mono HB.out.size)⟩
  have HSZ := Aside0.mk (fairP_size xs)
  obtain ⟨tx, htx⟩ : ∃ tx, (fairP xs).1 = tx := ⟨_, rfl⟩
  rw [htx] at HSZ
  rw [htx]
  clear h2 htx HCALL
  have HO := open_rd A n cap bs w2 (H.out.below HB3.out)
  cases hok : (fairP xs).2 with
  | false =>
    go_wp2_with fail
    refine HO.mono ?_
    rintro e w3 ⟨rfl, h3, h4⟩
    obtain ⟨fv, hfv⟩ := h3.field
    have c1 : w3.cell? ⟨w2.heap.size, 1, none⟩ = some (.int .i64 0) := by rw [Lib.cell_of_heap hfv]; rfl
    have z1 : w3.frozen? ⟨w2.heap.size, 1, none⟩ = false := Lib.frozen_of_heap hfv 1
    have HRD := Aside0.mk (h3.set 61)
    have H4 := Aside0.mk h4
    clear h3 h4 hfv HO
    go_wp2_with fail
    refine Calls.mono (of_any w2.heap.size 61 w2 _ ?hR ⟨by omega, by omega⟩ _ 9 ⟨by omega, by omega⟩ fairTexts rfl ?hB ?hC) ?_
    case hR => exact HRD.out.alloc _
    case hC => exact str_cells (new_at (by simp)) fairTexts rfl
    case hB => have := HRD.out.lt; (try simp at this); intro e; omega
    rintro e w5 ⟨s, hs, rfl, h5, _⟩
    have H5 := Aside0.mk h5
    have HS := Aside0.mk (fairTexts_small s hs)
    clear h5 hs
    go_wp2_with fail
    go_ret2
    exact ⟨kk, _, s, rfl, a1, a2, HS.out, row_on HR.out HB2.out H5.out, HB3.out.trans (H5.out.mono HB3.out.size)⟩
  | true =>
    go_wp2_with fail
    refine HO.mono ?_
    rintro e w3 ⟨rfl, h3, h4⟩
    obtain ⟨fv, hfv⟩ := h3.field
    have c1 : w3.cell? ⟨w2.heap.size, 1, none⟩ = some (.int .i64 0) := by rw [Lib.cell_of_heap hfv]; rfl
    have z1 : w3.frozen? ⟨w2.heap.size, 1, none⟩ = false := Lib.frozen_of_heap hfv 1
    have HRD := Aside0.mk (h3.set 61)
    have H4 := Aside0.mk h4
    clear h3 h4 hfv HO
    go_wp2_with fail
    refine (pick_rd w2.heap.size 61 5 w2 _ HRD.out ⟨by omega, by omega⟩ ⟨by omega, by omega⟩).mono ?_
    rintro e w4 ⟨kz, rfl, hkz, H5, H6, H7, H8⟩
    by_cases h0 : kz = 0
    case neg =>
      have h0' : ((kz : Int) == 0) = false := by rw [beq_eq_false_iff_ne]; omega
      go_wp2_with fail
      go_ret2
      exact ⟨kk, _, tx, rfl, a1, a2, HSZ.out, row_on HR.out HB2.out H6.out, HB3.out.trans (H6.out.mono HB3.out.size)⟩
    case pos =>
      subst h0
      go_wp2_with fail
      refine Calls.mono (of_any w2.heap.size (61 + 1) w2 _ ?hR ⟨by omega, by omega⟩ _ 9 ⟨by omega, by omega⟩ fairTexts rfl ?hB ?hC) ?_
      case hR => exact H5.out.alloc _
      case hC => exact str_cells (new_at (by simp)) fairTexts rfl
      case hB => have := H5.out.lt; (try simp at this); intro e; omega
      rintro e w5 ⟨s, hs, rfl, h5, _⟩
      have H5 := Aside0.mk h5
      have HS := Aside0.mk (fairTexts_small s hs)
      clear h5 hs
      go_wp2_with fail
      go_ret2
      exact ⟨kk, _, s, rfl, a1, a2, HS.out, row_on HR.out HB2.out H5.out, HB3.out.trans (H5.out.mono HB3.out.size)⟩
end Go.Proofs.Ytlhbdeebkkpkmaa
