/- The pure statement of FnExactCheckMatches: sums that only grow are too great at the end where they once were. -/
import Derived.Test.YtennlgkacijnnaaHCheckT
import Derived.Test.YtennlgkacijnnaaSpec6O
import Derived.Test.YtennlgkacijnnaaHelp6M
import Derived.Test.YtennlgkacijnnaaQ17
set_option linter.unusedVariables false
set_option linter.unusedSimpArgs false
namespace Go.Proofs.Ytennlgkacijnnaa.Q
open Go.RowKit Go.Proofs.YtennlgkacijnnaaW.PrintWords Go.Proofs.YtennlgkacijnnaaW.PrintMore Go.Proofs.Ytennlgkacijnnaa.Loops
theorem addAt_getD {xs : List Int} {i j : Nat} {n : Int} (hi : i < xs.length) : (addAt xs i n).getD j 0 = if j = i then xs.getD j 0 + n else xs.getD j 0 := by
  unfold addAt
  simp only [List.getD_eq_getElem?_getD]
  split
  · rename_i h
    subst h
    rw [List.getElem?_set_self hi]
    rfl
  · rename_i h
    rw [List.getElem?_set_ne (Ne.symm h)]
theorem addAt_length (xs : List Int) (i : Nat) (n : Int) : (addAt xs i n).length = xs.length := by unfold addAt; rw [List.length_set]
theorem badM_false {l : List S75} {m : List S81} {days : Int} {x : S102} (h : badM l m days x = false) : 1 ≤ x.f2 ∧ 0 ≤ x.f0 ∧ x.f0 < (m.length : Int) ∧ 0 ≤ x.f1 ∧ x.f1 < (l.length : Int) := by
  unfold badM at h
  rw [Bool.or_eq_false_iff, Bool.or_eq_false_iff, decide_eq_false_iff_not, Bool.not_eq_false', Bool.and_eq_true, inB_true, inB_true] at h
  omega
theorem sumFrom_grows (l : List S75) (m : List S81) (days : Int) (ms : List S102) : ∀ (n i : Nat) (sv gv sv' gv' : List Int), sv.length = m.length → gv.length = l.length → sumFrom l m days ms n i sv gv = some (sv', gv') → (∀ j, sv.getD j 0 ≤ sv'.getD j 0) ∧ (∀ j, gv.getD j 0 ≤ gv'.getD j 0) := by
  intro n
  induction n with
  | zero =>
    intro i sv gv sv' gv' _ _ h
    simp only [sumFrom, Option.some.injEq, Prod.mk.injEq] at h
    rw [h.1, h.2]
    exact ⟨fun _ => Int.le_refl _, fun _ => Int.le_refl _⟩
  | succ n ih =>
    intro i sv gv sv' gv' h1 h2 h
    rw [sumFrom] at h
    split at h
    · cases h
    · rename_i hb
      rw [Bool.or_eq_true, not_or, Bool.not_eq_true, Bool.not_eq_true] at hb
      have hb2 := badM_false hb.2
      have hih := ih _ _ _ _ _ (by rw [addAt_length]; exact h1) (by rw [addAt_length]; exact h2) h
      constructor
      · intro j
        have := hih.1 j
        rw [addAt_getD (by omega)] at this
        split at this <;> omega
      · intro j
        have := hih.2 j
        rw [addAt_getD (by omega)] at this
        split at this <;> omega
theorem check_eq (l : List S75) (m : List S81) (days : Int) (ms : List S102) : ∀ (n i : Nat) (sv gv : List Int), sv.length = m.length → gv.length = l.length → (∀ r, r < m.length → fitR m sv r = true) → (∀ o, o < l.length → fitO l gv o = true) →
    checkFrom l m days ms n i gv sv = sumsFit l m (sumFrom l m days ms n i sv gv) := by
  intro n
  induction n with
  | zero =>
    intro i sv gv _ _ h1 h2
    simp only [checkFrom, sumFrom, sumsFit]
    rw [eq_comm, Bool.and_eq_true, List.all_eq_true, List.all_eq_true]
    exact ⟨fun r hr => h1 r (List.mem_range.1 hr), fun o ho => h2 o (List.mem_range.1 ho)⟩
  | succ n ih =>
    intro i sv gv l1 l2 h1 h2
    rw [checkFrom, sumFrom]
    generalize ms.getD i z102 = x
    split
    · rfl
    · rename_i hb
      rw [Bool.or_eq_true, not_or, Bool.not_eq_true, Bool.not_eq_true] at hb
      have hb2 := badM_false hb.2
      have a1 := addAt_length sv x.f0.toNat x.f2
      have a2 := addAt_length gv x.f1.toNat x.f2
      have g1 : (addAt sv x.f0.toNat x.f2).getD x.f0.toNat 0 = sv.getD x.f0.toNat 0 + x.f2 := getD_set_self (by omega)
      have g2 : (addAt gv x.f1.toNat x.f2).getD x.f1.toNat 0 = gv.getD x.f1.toNat 0 + x.f2 := getD_set_self (by omega)
      split
      · rename_i hc
        rw [Bool.or_eq_true, decide_eq_true_eq, decide_eq_true_eq] at hc
        cases hq : sumFrom l m days ms n (i + 1) (addAt sv x.f0.toNat x.f2) (addAt gv x.f1.toNat x.f2) with
        | none => rfl
        | some p =>
          obtain ⟨sv', gv'⟩ := p
          have hgr := sumFrom_grows l m days ms n (i + 1) _ _ _ _ (by omega) (by omega) hq
          simp only [sumsFit]
          rw [eq_comm, Bool.and_eq_false_iff]
          rcases hc with hc | hc
          · refine Or.inr (range_all_fail _ x.f1.toNat _ (by omega) ?_)
            unfold fitO
            rw [decide_eq_false_iff_not]
            have := hgr.2 x.f1.toNat
            omega
          · refine Or.inl (range_all_fail _ x.f0.toNat _ (by omega) ?_)
            unfold fitR
            rw [decide_eq_false_iff_not]
            have := hgr.1 x.f0.toNat
            omega
      · rename_i hc
        rw [Bool.or_eq_true, decide_eq_true_eq, decide_eq_true_eq, not_or] at hc
        refine ih _ _ _ (by omega) (by omega) (fun r hr => ?_) (fun o ho => ?_)
        · have hf := h1 r hr
          unfold fitR at hf ⊢
          rw [decide_eq_true_eq] at hf ⊢
          by_cases he : r = x.f0.toNat
          · subst he
            omega
          · rw [addAt_getD (by omega), if_neg he]
            exact hf
        · have hf := h2 o ho
          unfold fitO at hf ⊢
          rw [decide_eq_true_eq] at hf ⊢
          by_cases he : o = x.f1.toNat
          · subst he
            omega
          · rw [addAt_getD (by omega), if_neg he]
            exact hf
theorem checkC_valid {l : List S75} {m : List S81} {days : Int} {ms : List S102} (h : checkC l m days ms = 0) : ordersB l = true ∧ returnsB m = true := by
  unfold checkC daysC at h
  cases h1 : ordersB l <;> cases h2 : returnsB m <;> simp [h1, h2] at h ⊢
theorem orders_num {l : List S75} (h : ordersB l = true) (o : Nat) (ho : o < l.length) : 0 ≤ (l.getD o z75).f2 := by
  unfold ordersB at h
  rw [Bool.and_eq_true, Bool.not_eq_true'] at h
  have := List.any_eq_false.1 h.2 _ (getD_mem l z75 o ho)
  generalize l.getD o z75 = x at this
  simp only [orderBad, retB, Bool.or_eq_true, not_or, Bool.not_eq_true', Bool.not_eq_false, Bool.and_eq_true, inB_true] at this
  omega
theorem returns_num {l : List S81} (h : returnsB l = true) (o : Nat) (ho : o < l.length) : 0 ≤ (l.getD o z81).f2 := by
  unfold returnsB at h
  rw [Bool.and_eq_true, Bool.not_eq_true'] at h
  have := List.any_eq_false.1 h.2 _ (getD_mem l z81 o ho)
  generalize l.getD o z81 = x at this
  simp only [returnBad, retB, Bool.not_eq_true', Bool.not_eq_false, Bool.and_eq_true, inB_true] at this
  omega
theorem checkRes_eq (l : List S75) (m : List S81) (days : Int) (ms : List S102) : checkRes l m days ms = sCheckRes l m days ms := by
  unfold checkRes sCheckRes
  split
  · rename_i h
    obtain ⟨ho, hr⟩ := checkC_valid h
    rw [check_eq _ _ _ _ _ _ _ _ (by simp) (by simp) (fun r hr2 => ?_) (fun o ho2 => ?_)]
    · unfold fitR
      rw [decide_eq_true_eq]
      have hz : (List.replicate m.length (0 : Int)).getD r 0 = 0 := by rw [List.getD_eq_getElem?_getD, List.getElem?_replicate, if_pos hr2]; rfl
      rw [hz]
      exact returns_num hr _ hr2
    · unfold fitO
      rw [decide_eq_true_eq]
      have hz : (List.replicate l.length (0 : Int)).getD o 0 = 0 := by rw [List.getD_eq_getElem?_getD, List.getElem?_replicate, if_pos ho2]; rfl
      rw [hz]
      exact orders_num ho _ ho2
  · rfl
theorem Pure.FnExactCheckMatches (y0 : List (S77)) (y1 : List (S96)) (x2 : Int) (y3 : List (S104)) (w0 : (y0.length ≤ maxLen ∧ ∀ x ∈ y0, wf77 x)) (w1 : (y1.length ≤ maxLen ∧ ∀ x ∈ y1, wf96 x)) (w2 : (Lit.int .i64 x2).wf = true) (w3 : (y3.length ≤ maxLen ∧ ∀ x ∈ y3, wf104 x)) : ∃ k, laws_FnExactCheckMatches.f k y0 y1 x2 y3 = some true := by
  have hok := okOrder_all y0 w0
  have hom := okReturn_all y1 w1
  have hos := okMatch_all y3 w3
  by_cases h1 : (1048576 : Int) - y0.length < 0
  · refine ⟨0, ?_⟩
    unfold laws_FnExactCheckMatches.f
    rw [szOrderS_is y0 _ w0.1 (by omega) (by omega), Option.bind_some]
    simp [h1]
  · by_cases h2 : (1048576 : Int) - y0.length - y1.length < 0
    · refine ⟨0, ?_⟩
      unfold laws_FnExactCheckMatches.f
      rw [szOrderS_is y0 _ w0.1 (by omega) (by omega), Option.bind_some, if_neg h1, if_neg h1, szReturnS_is y1 _ w1.1 (by omega) (by omega), Option.bind_some]
      simp [h2]
    · by_cases h3 : (1048576 : Int) - y0.length - y1.length - y3.length < 0
      · refine ⟨0, ?_⟩
        unfold laws_FnExactCheckMatches.f
        rw [szOrderS_is y0 _ w0.1 (by omega) (by omega), Option.bind_some, if_neg h1, if_neg h1, szReturnS_is y1 _ w1.1 (by omega) (by omega), Option.bind_some, if_neg h2, if_neg h2, szMatchS_is y3 _ w3.1 (by omega) (by omega), Option.bind_some]
        simp [h3]
      · have hl' : (y0.map cvOrder).length ≤ 1048576 := by rw [List.length_map]; omega
        have hlm : (y0.map cvOrder).length = y0.length := List.length_map ..
        have hm' : (y1.map cvReturn).length ≤ 1048576 := by rw [List.length_map]; omega
        have hmm : (y1.map cvReturn).length = y1.length := List.length_map ..
        have hs' : (y3.map cvMatch).length ≤ 1048576 := by rw [List.length_map]; omega
        have hsm : (y3.map cvMatch).length = y3.length := List.length_map ..
        have hi : impl_CheckMatches.f (y0.map cvOrder) (y1.map cvReturn) x2 (y3.map cvMatch) = some (sCheckRes (y0.map cvOrder) (y1.map cvReturn) x2 (y3.map cvMatch)) := by
          unfold impl_CheckMatches.f
          rw [if_pos ⟨⟨hok, hl'⟩, ⟨hom, hm'⟩, hos, hs'⟩, checkRes_eq]
        have hsp : spec_CheckMatches.f (y0.map cvOrder) (y1.map cvReturn) x2 (y3.map cvMatch) = some (sCheckRes (y0.map cvOrder) (y1.map cvReturn) x2 (y3.map cvMatch)) := by
          unfold spec_CheckMatches.f
          rw [if_pos ⟨⟨hok, hl'⟩, ⟨hom, hm'⟩, hos, hs'⟩]
        refine ⟨y0.length + y1.length + y3.length + y3.length + 4, ?_⟩
        unfold laws_FnExactCheckMatches.f
        rw [szOrderS_is y0 _ w0.1 (by omega) (by omega), Option.bind_some, if_neg h1, if_neg h1, szReturnS_is y1 _ w1.1 (by omega) (by omega), Option.bind_some, if_neg h2, if_neg h2, szMatchS_is y3 _ w3.1 (by omega) (by omega), Option.bind_some, if_neg h3, if_neg h3]
        rw [toOrderS_is y0 (by omega) _ (by omega), Option.bind_some, toReturnS_is y1 (by omega) _ (by omega), Option.bind_some, toMatchS_is y3 (by omega) _ (by omega), Option.bind_some, hsp, Option.bind_some, Option.bind_some, Option.bind_some, Option.bind_some, hi, Option.bind_some, bne_self_eq_false, if_neg (by simp), bne_self_eq_false]
        rw [laws_FnExactCheckMatches.j0, if_neg (by simp), toOrderS_is y0 (by omega) _ (by omega), Option.bind_some, eqOrderS_is _ _ hl' _ (by omega), Option.bind_some, if_pos (by simp), toReturnS_is y1 (by omega) _ (by omega), Option.bind_some, eqReturnS_is _ _ hm' _ (by omega), Option.bind_some, if_pos (by simp), toMatchS_is y3 (by omega) _ (by omega), Option.bind_some, eqMatchS_is _ _ hs' _ (by omega), Option.bind_some, if_pos (by simp)]
end Go.Proofs.Ytennlgkacijnnaa.Q
