/- The pure statement of FnExactSortScans: an insertion into a new list and the insertion sort come to the same list, for all nets and lists of scans. -/
import Derived.Test.YtjcokfdafingeaaMarkScan
import Derived.Test.YtjcokfdafingeaaQ5
set_option linter.unusedVariables false
set_option linter.unusedSimpArgs false
namespace Go.Proofs.Ytjcokfdafingeaa.Q
open Go.RowKit Go.Proofs.YtjcokfdafingeaaW.PrintWords Go.Proofs.Ytjcokfdafingeaa.Loops
theorem cfS_bef (x y : S47) : cfS x y < 0 ↔ befS x y = true := by
  unfold cfS befS orV cmpI
  simp only [Bool.or_eq_true, Bool.and_eq_true, decide_eq_true_eq, beq_iff_eq]
  by_cases h1 : x.f1 < y.f1
  · simp [h1]
  · by_cases h2 : y.f1 < x.f1
    · simp [h1, h2]
      omega
    · have h3 : x.f1 = y.f1 := by omega
      by_cases h4 : x.f0 < y.f0
      · simp [h3, h4]
      · by_cases h5 : y.f0 < x.f0
        · simp [h3, h4, h5]
        · simp [h3, h4, h5]
theorem swapS_at (A R : List S47) (y x : S47) : swapS (A ++ y :: x :: R) A.length = A ++ x :: y :: R := by
  unfold swapS
  have h1 : (A ++ y :: x :: R).getD A.length z47 = y := by rw [List.getD_eq_getElem?_getD, List.getElem?_append_right (Nat.le_refl _), Nat.sub_self]; rfl
  have h2 : (A ++ y :: x :: R).getD (A.length + 1) z47 = x := by rw [List.getD_eq_getElem?_getD, List.getElem?_append_right (by omega), show A.length + 1 - A.length = 1 by omega]; rfl
  rw [h1, h2, List.set_append_right _ _ (by omega), show A.length + 1 - A.length = 1 by omega, List.set_append_right _ _ (by omega), Nat.sub_self]
  rfl
theorem inner_is (ys zs : List S47) (x : S47) : ∀ j, j ≤ ys.length → innerS cfS j (ys.take j ++ x :: (ys.drop j ++ zs)) = ys.take (scanAt x ys j) ++ x :: (ys.drop (scanAt x ys j) ++ zs)
  | 0, _ => rfl
  | j + 1, hj => by
    have hl : (ys.take j).length = j := by rw [List.length_take]; omega
    have hg : ys.getD j z47 = ys[j]'hj := by rw [List.getD_eq_getElem?_getD, List.getElem?_eq_getElem hj]; rfl
    have e1 : ys.take (j + 1) ++ x :: (ys.drop (j + 1) ++ zs) = ys.take j ++ ys[j]'hj :: x :: (ys.drop (j + 1) ++ zs) := by
      rw [List.take_succ_eq_append_getElem hj]
      simp only [List.append_assoc, List.cons_append, List.nil_append]
    have e2 : (ys.take j ++ ys[j]'hj :: x :: (ys.drop (j + 1) ++ zs)).getD (j + 1) z47 = x := by
      rw [List.getD_eq_getElem?_getD, List.getElem?_append_right (by omega), hl, show j + 1 - j = 1 by omega]; rfl
    have e3 : (ys.take j ++ ys[j]'hj :: x :: (ys.drop (j + 1) ++ zs)).getD j z47 = ys[j]'hj := by
      rw [List.getD_eq_getElem?_getD, List.getElem?_append_right (by omega), hl, Nat.sub_self]; rfl
    have e4 : swapS (ys.take j ++ ys[j]'hj :: x :: (ys.drop (j + 1) ++ zs)) j = ys.take j ++ x :: (ys.drop j ++ zs) := by
      have := swapS_at (ys.take j) (ys.drop (j + 1) ++ zs) (ys[j]'hj) x
      rw [hl] at this
      rw [this, List.drop_eq_getElem_cons hj]
      rfl
    rw [e1, innerS, e2, e3, scanAt, hg]
    by_cases hb : befS x (ys[j]'hj) = true
    · rw [if_pos ((cfS_bef _ _).2 hb), if_pos hb, e4]
      exact inner_is ys zs x j (by omega)
    · rw [if_neg (fun h => hb ((cfS_bef _ _).1 h)), if_neg hb, e1]
theorem outer_is (ss : List S47) : ∀ n i, i + n = ss.length → outerS cfS n i (insAll ss i ++ ss.drop i) = insAll ss (i + n)
  | 0, i, h => by
    rw [outerS, List.drop_of_length_le (by omega), List.append_nil, Nat.add_zero]
  | n + 1, i, h => by
    rw [outerS]
    have hl := insAll_length ss i
    have e1 : ss.drop i = ss.getD i z47 :: ss.drop (i + 1) := by
      rw [List.getD_eq_getElem?_getD, List.getElem?_eq_getElem (by omega)]
      exact List.drop_eq_getElem_cons (by omega)
    have e2 := inner_is (insAll ss i) (ss.drop (i + 1)) (ss.getD i z47) i (by omega)
    rw [List.take_of_length_le (by omega), List.drop_of_length_le (by omega), List.nil_append] at e2
    rw [e1, e2]
    have e3 : (insAll ss i).take (scanAt (ss.getD i z47) (insAll ss i) i) ++ ss.getD i z47 :: ((insAll ss i).drop (scanAt (ss.getD i z47) (insAll ss i) i) ++ ss.drop (i + 1)) = insAll ss (i + 1) ++ ss.drop (i + 1) := by
      show _ = insS (insAll ss i) (ss.getD i z47) ++ _
      unfold insS
      rw [hl]
      simp
    rw [e3, outer_is ss n (i + 1) (by omega), show i + 1 + n = i + (n + 1) by omega]
theorem sorted_is (ss : List S47) : sortedS ss = insAll ss ss.length := by
  unfold sortedS
  by_cases h : ss.length = 0
  · have : ss = [] := List.eq_nil_of_length_eq_zero h
    subst this
    rfl
  · have h1 : insAll ss 1 ++ ss.drop 1 = ss := by
      obtain ⟨x, r, rfl⟩ := List.exists_cons_of_ne_nil (fun e => h (by rw [e]; rfl) : ss ≠ [])
      rfl
    have := outer_is ss (ss.length - 1) 1 (by omega)
    rw [h1, show 1 + (ss.length - 1) = ss.length by omega] at this
    exact this
theorem sortRes_eq (s t : Int) (l : List S71) (ss : List S47) : sortRes s t l ss = sSortRes s t l ss := by
  unfold sortRes sSortRes
  rw [sorted_is]
theorem Pure.FnExactSortScans (y0 : S26) (y1 : List (S44)) (w0 : wf26 y0) (w1 : (y1.length ≤ maxLen ∧ ∀ x ∈ y1, wf44 x)) : ∃ k, laws_FnExactSortScans.f k y0.f0 y0.f1 y0.f2 y1 = some true := by
  have hok := okNet_of w0
  have ho1 : (y1.map cvScan).all okScan = true := by
    rw [List.all_eq_true]
    intro x hx
    obtain ⟨z, hz, rfl⟩ := List.mem_map.1 hx
    obtain ⟨g0, g1⟩ := w1.2 z hz
    have := bounds_i8 g0
    have := bounds_i16 g1
    rw [okScan_iff]
    simp only [cvScan]
    omega
  obtain ⟨a, b, l⟩ := y0
  obtain ⟨_, _, hl, _⟩ := w0
  obtain ⟨hs1, _⟩ := w1
  simp only at hl hok ⊢
  by_cases h1 : (1048576 : Int) - l.length < 0
  · refine ⟨0, ?_⟩
    unfold laws_FnExactSortScans.f
    rw [szNet_is a b l _ hl (by omega) (by omega), Option.bind_some]
    simp [h1]
  · by_cases h2 : (1048576 : Int) - l.length - y1.length < 0
    · refine ⟨0, ?_⟩
      unfold laws_FnExactSortScans.f
      rw [szNet_is a b l _ hl (by omega) (by omega), Option.bind_some, if_neg h1, if_neg h1, szScanS_is y1 _ hs1 (by omega) (by omega), Option.bind_some]
      simp [h2]
    · have hl' : (l.map cvLane).length ≤ 1048576 := by rw [List.length_map]; omega
      have hlm : (l.map cvLane).length = l.length := List.length_map ..
      have hsl' : (y1.map cvScan).length ≤ 1048576 := by rw [List.length_map]; omega
      have hslm : (y1.map cvScan).length = y1.length := List.length_map ..
      have T : ∀ k, l.length < k → laws_toNet.f k a b l = some (a, b, l.map cvLane) := fun k hk => toNet_is a b l (by omega) k hk
      have Q : ∀ k, l.length < k → laws_eqNet.f k a b (l.map cvLane) a b (l.map cvLane) = some true := fun k hk => eqNet_same a b _ hl' k (by omega)
      have TS : ∀ k, y1.length < k → laws_toScanS.f k y1 = some (y1.map cvScan) := fun k hk => toScanS_is y1 (by omega) k hk
      have QS : ∀ k, y1.length < k → laws_eqScanS.f k (y1.map cvScan) (y1.map cvScan) = some true := fun k hk => by rw [eqScanS_is _ _ hsl' k (by omega)]; simp
      obtain ⟨r, c, hr⟩ : ∃ r c, sSortRes a b (l.map cvLane) (y1.map cvScan) = (r, c) := ⟨_, _, rfl⟩
      have hs : spec_SortScans.f a b (l.map cvLane) (y1.map cvScan) = some (r, c) := by unfold spec_SortScans.f; rw [if_pos ⟨hok, hsl', ho1⟩, hr]
      have hi : impl_SortScans.f a b (l.map cvLane) (y1.map cvScan) = some (r, c) := by unfold impl_SortScans.f; rw [if_pos ⟨hok, hsl', ho1⟩, sortRes_eq, hr]
      have hrl : r.length ≤ y1.length := by
        have h : r = (sSortRes a b (l.map cvLane) (y1.map cvScan)).1 := by rw [hr]
        rw [h]
        unfold sSortRes coded
        split
        · rw [insAll_length]; omega
        · simp
      have R : ∀ k, y1.length < k → laws_eqScanS.f k r r = some true := fun k hk => by rw [eqScanS_is _ _ (by omega) k (by omega)]; simp
      have M : ∀ k, y1.length < k → laws_markScanS.f k r 1 = some (1 + 2 * (r.length : Int), gmarks mkScan 2 1 r.length) := fun k hk => markScanS_all r (by omega) k (by omega) 1 (by omega) (by omega)
      have H : ∀ k, y1.length < k → laws_heldScanS.f k (gmarks mkScan 2 1 r.length) 1 = some (1 + 2 * (r.length : Int)) := fun k hk => heldScanS_is r.length (by omega) k (by omega) 1 (by omega) (by omega)
      obtain ⟨l', hm⟩ := markNet_is a b (l.map cvLane) hl' (l.length + y1.length + 5) (by omega)
      obtain ⟨l2, hm2⟩ := markScanS_is (y1.map cvScan) hsl' (l.length + y1.length + 5) (by omega) (1 + 4 * ((l.map cvLane).length : Int)) (by omega) (by omega)
      refine ⟨l.length + y1.length + 6, ?_⟩
      unfold laws_FnExactSortScans.f
      rw [szNet_is a b l _ hl (by omega) (by omega), Option.bind_some, if_neg h1, if_neg h1, szScanS_is y1 _ hs1 (by omega) (by omega), Option.bind_some, if_neg h2, if_neg h2]
      rw [T _ (by omega)]
      simp only [Option.bind_some]
      rw [TS _ (by omega)]
      simp only [Option.bind_some, hs, hi]
      rw [R _ (by omega)]
      simp only [Option.bind_some, bne_self_eq_false, if_true]
      rw [laws_FnExactSortScans.j0, if_neg (by simp), T _ (by omega)]
      simp only [Option.bind_some]
      rw [Q _ (by omega)]
      simp only [Option.bind_some, if_true]
      rw [TS _ (by omega)]
      simp only [Option.bind_some]
      rw [QS _ (by omega)]
      simp only [Option.bind_some, if_true]
      rw [hm]
      simp only [Option.bind_some]
      rw [hm2]
      simp only [Option.bind_some]
      rw [if_neg (by omega), R _ (by omega)]
      simp only [Option.bind_some, if_true, bne_self_eq_false]
      rw [laws_FnExactSortScans.j1, if_neg (by simp), M _ (by omega)]
      simp only [Option.bind_some]
      rw [H _ (by omega)]
      simp only [Option.bind_some, if_true]
      rw [if_neg (by omega), T _ (by omega)]
      simp only [Option.bind_some]
      rw [TS _ (by omega)]
      simp only [Option.bind_some, hi]
      rw [R _ (by omega)]
      simp only [Option.bind_some, if_true, bne_self_eq_false]
      rw [laws_FnExactSortScans.j2, if_neg (by simp), H _ (by omega)]
      simp only [Option.bind_some, if_true]
      rw [if_neg (by omega)]
end Go.Proofs.Ytjcokfdafingeaa.Q
