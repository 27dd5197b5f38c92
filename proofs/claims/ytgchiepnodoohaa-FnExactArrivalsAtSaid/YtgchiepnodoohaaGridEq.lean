/- Arrays of bools are equal just where their lists are. -/
import Derived.Test.YtgchiepnodoohaaGrid
import Derived.DeepKeys
set_option linter.unusedVariables false
set_option linter.unusedSimpArgs false
namespace Go.Proofs.Ytgchiepnodoohaa.Q
open Go.RowKit Go.Proofs.YtgchiepnodoohaaW.PrintWords Go.Proofs.YtgchiepnodoohaaW.PrintLast Go.Proofs.YtgchiepnodoohaaW.PrintMore

theorem eqItems_bool (d : Nat) (F G : List Bool) (hl : F.length = G.length) (w : World) : ∀ (is : List Nat), (∀ i ∈ is, i < F.length) → (Op.eqItems (d + 1) 4 1 (bcells F) (bcells G) is).run Try.prog w = .ok (is.all fun i => F.getD i false == G.getD i false) w
  | [], _ => by simp [Op.eqItems]
  | i :: is, h => by
    have hi := h i List.mem_cons_self
    have ih := eqItems_bool d F G hl w is (fun j hj => h j (List.mem_cons_of_mem _ hj))
    have a1 := bcells_get_lt F i hi
    have b1 := bcells_get_lt G i (by omega)
    have e := run_equalIn_bool (P := Try.prog) w d 4 (F.getD i false) (G.getD i false) Try.underlying4
    simp only [Op.eqItems, Sem.run_bind, part, Try.isAgg4, Result.andThen_ok, Nat.mul_one, Bool.false_eq_true, if_false, a1, b1, Sem.run_pure, e]
    cases hq : (F.getD i false == G.getD i false) with
    | true =>
      simp only [Bool.not_true, Bool.false_eq_true, if_false, ih, List.all_cons, hq, Bool.true_and]
    | false =>
      simp only [Bool.not_false, if_true, Sem.run_pure, List.all_cons, hq, Bool.false_and]
theorem all_range_eq (F G : List Bool) (n : Nat) (hF : F.length = n) (hG : G.length = n) : ((List.range n).all fun i => F.getD i false == G.getD i false) = decide (F = G) := by
  by_cases h : F = G
  · subst h
    simp
  · rw [decide_eq_false h]
    rw [List.all_eq_false]
    have : ∃ i, i < n ∧ F.getD i false ≠ G.getD i false := by
      apply Classical.byContradiction
      intro hn
      apply h
      apply List.ext_getElem (by omega)
      intro i h1 h2
      have := Classical.byContradiction (fun hne => hn ⟨i, by omega, hne⟩)
      simp only [List.getD_eq_getElem?_getD, List.getElem?_eq_getElem h1, List.getElem?_eq_getElem h2, Option.getD_some] at this
      exact this
    obtain ⟨i, hi, hne⟩ := this
    exact ⟨i, List.mem_range.2 hi, by simpa using hne⟩
theorem eq_hours (d : Nat) (F G : List Bool) (hF : F.length = 301) (hG : G.length = 301) (w : World) : (Op.equalIn (d + 2) 98 (.agg (bcells F)) (.agg (bcells G))).run Try.prog w = .ok (decide (F = G)) w := by
  obtain ⟨i, hi⟩ := info_of_underlying Try.underlying4
  have h1 := run_equalIn_array w (d + 1) (bcells F) (bcells G) Try.underlying98 hi
  have hc : Try.prog.cellsOf 4 = 1 := by kernel_rfl
  rw [hc] at h1
  rw [h1, eqItems_bool d F G (by omega) w _ (fun i hi => by have := List.mem_range.1 hi; omega), all_range_eq F G 301 hF hG]
theorem eqItems_hours (d : Nat) (F G : List Bool) (hF : F.length = 2408) (hG : G.length = 2408) (w : World) : ∀ (is : List Nat), (∀ i ∈ is, i < 8) →
    (Op.eqItems (d + 2) 98 301 (bcells F) (bcells G) is).run Try.prog w = .ok (is.all fun i => decide ((F.drop (i * 301)).take 301 = (G.drop (i * 301)).take 301)) w
  | [], _ => by simp [Op.eqItems]
  | i :: is, h => by
    have hi := h i List.mem_cons_self
    have ih := eqItems_hours d F G hF hG w is (fun j hj => h j (List.mem_cons_of_mem _ hj))
    have e := eq_hours d ((F.drop (i * 301)).take 301) ((G.drop (i * 301)).take 301) (part_length _ _ _ (by omega)) (part_length _ _ _ (by omega)) w
    simp only [Op.eqItems, Sem.run_bind, part, Try.isAgg98, Result.andThen_ok, Try.sizeOf98, if_true, Sem.run_pure, bcells_extract, e]
    by_cases hq : (F.drop (i * 301)).take 301 = (G.drop (i * 301)).take 301
    · simp only [hq, decide_true, Bool.not_true, Bool.false_eq_true, if_false, ih, List.all_cons, Bool.true_and]
    · simp only [hq, decide_false, Bool.not_false, if_true, Sem.run_pure, List.all_cons, Bool.false_and]
theorem all_parts_eq (F G : List Bool) (hF : F.length = 2408) (hG : G.length = 2408) : ((List.range 8).all fun i => decide ((F.drop (i * 301)).take 301 = (G.drop (i * 301)).take 301)) = decide (F = G) := by
  by_cases h : F = G
  · subst h
    simp
  · rw [decide_eq_false h, List.all_eq_false]
    apply Classical.byContradiction
    intro hn
    apply h
    apply List.ext_getElem (by omega)
    intro i h1 h2
    have e : (F.drop (i / 301 * 301)).take 301 = (G.drop (i / 301 * 301)).take 301 := by
      apply Classical.byContradiction
      intro hne
      exact hn ⟨i / 301, List.mem_range.2 (by omega), by simpa using hne⟩
    have e1 := part_getD F (i / 301 * 301) 301 (i % 301) (by omega)
    have e2 := part_getD G (i / 301 * 301) 301 (i % 301) (by omega)
    rw [e, e2] at e1
    have e3 : i / 301 * 301 + i % 301 = i := by omega
    rw [e3] at e1
    simp only [List.getD_eq_getElem?_getD, List.getElem?_eq_getElem h1, List.getElem?_eq_getElem h2, Option.getD_some] at e1
    exact e1.symm
theorem eq_arrivals (d : Nat) (F G : List Bool) (hF : F.length = 2408) (hG : G.length = 2408) (w : World) : (Op.equalIn (d + 3) 100 (.agg (bcells F)) (.agg (bcells G))).run Try.prog w = .ok (decide (F = G)) w := by
  obtain ⟨i, hi⟩ := info_of_underlying Try.underlying98
  have h1 := run_equalIn_array w (d + 2) (bcells F) (bcells G) Try.underlying100 hi
  have hc : Try.prog.cellsOf 98 = 301 := by kernel_rfl
  rw [hc] at h1
  rw [h1, eqItems_hours d F G hF hG w _ (fun i hi => List.mem_range.1 hi), all_parts_eq F G hF hG]
end Go.Proofs.Ytgchiepnodoohaa.Q
