/- The order in which vouchers end: the kit's insertion sort by a key is the sort by key and place. -/
import Derived.Test.YtennlgkacijnnaaHPay
set_option linter.unusedVariables false
set_option linter.unusedSimpArgs false
namespace Go.Proofs.Ytennlgkacijnnaa.Q
open Go.RowKit
open Go.Sort (insInner insOuter swp size_swp swp_other)
section
variable {α : Type} [Inhabited α] (lt lt2 : α → α → Bool) (val : α → Nat)
theorem swp_left (d : Array α) (i j : Nat) (hi : i < d.size) (hj : j < d.size) : (swp d i j)[j]! = d[i]! := by
  unfold swp
  rw [getElem!_pos _ j (by simpa using hj), Array.getElem_setIfInBounds, if_pos rfl]
  simpa using hj
theorem swp_right (d : Array α) (i j : Nat) (hi : i < d.size) (hj : j < d.size) (hne : i ≠ j) : (swp d i j)[i]! = d[j]! := by
  unfold swp
  rw [getElem!_pos _ i (by simpa using hi), Array.getElem_setIfInBounds, if_neg (fun e => hne e.symm), Array.getElem_setIfInBounds, if_pos rfl]
  · simpa using hi
  · simpa using hi
theorem insInner_congr (a : Nat) (h : ∀ x y, val y < val x → lt x y = lt2 x y) : ∀ (j : Nat) (d : Array α), j < d.size → (∀ q, a ≤ q → q < j → val d[q]! < val d[j]!) → insInner lt a j d = insInner lt2 a j d
  | 0, d, _, _ => rfl
  | j + 1, d, hj, hd => by
    rw [insInner, insInner]
    by_cases ha : j + 1 > a
    · rw [h _ _ (hd j (by omega) (by omega))]
      split
      · refine insInner_congr a h j _ (by rw [size_swp]; omega) (fun q h1 h2 => ?_)
        rw [swp_left d (j + 1) j hj (by omega), swp_other d (j + 1) j q (by omega) (by omega)]
        exact hd q h1 (by omega)
      · rfl
    · simp [ha]
theorem insInner_in (a : Nat) : ∀ (j : Nat) (d : Array α), j < d.size → (∀ q, q < a ∨ j < q → (insInner lt a j d)[q]! = d[q]!) ∧ (∀ q, a ≤ q → q ≤ j → ∃ q', a ≤ q' ∧ q' ≤ j ∧ (insInner lt a j d)[q]! = d[q']!)
  | 0, d, _ => ⟨fun _ _ => rfl, fun q h1 h2 => ⟨q, h1, h2, rfl⟩⟩
  | j + 1, d, hj => by
    rw [insInner]
    split
    · rename_i hc
      have ha : j + 1 > a := by
        simp only [Bool.and_eq_true, decide_eq_true_eq] at hc
        exact hc.1
      obtain ⟨h1, h2⟩ := insInner_in a j (swp d (j + 1) j) (by rw [size_swp]; omega)
      refine ⟨fun q hq => ?_, fun q h3 h4 => ?_⟩
      · rw [h1 q (by omega), swp_other _ _ _ _ (by omega) (by omega)]
      · by_cases hq : q = j + 1
        · subst hq
          refine ⟨j, by omega, by omega, ?_⟩
          rw [h1 _ (by omega), swp_right d (j + 1) j hj (by omega) (by omega)]
        · obtain ⟨q', h5, h6, h7⟩ := h2 q h3 (by omega)
          by_cases hq' : q' = j
          · subst hq'
            exact ⟨q' + 1, by omega, by omega, by rw [h7, swp_left d (q' + 1) q' hj (by omega)]⟩
          · exact ⟨q', h5, by omega, by rw [h7, swp_other _ _ _ _ (by omega) hq']⟩
    · exact ⟨fun _ _ => rfl, fun q h1 h2 => ⟨q, h1, h2, rfl⟩⟩
theorem insOuter_congr (a b : Nat) (h : ∀ x y, val y < val x → lt x y = lt2 x y) : ∀ (n i : Nat) (d : Array α), b - i = n → b ≤ d.size → (∀ p, i ≤ p → p < b → ∀ q, a ≤ q → q < p → val d[q]! < val d[p]!) → insOuter lt a b i d = insOuter lt2 a b i d
  | 0, i, d, hn, _, _ => by rw [insOuter_stop _ _ _ _ _ (by omega), insOuter_stop _ _ _ _ _ (by omega)]
  | n + 1, i, d, hn, hb, hd => by
    have hib : i < b := by omega
    have hid : i < d.size := Nat.lt_of_lt_of_le hib hb
    rw [insOuter_go _ _ _ _ _ hib, insOuter_go _ _ _ _ _ hib, insInner_congr lt lt2 val a h i d hid (hd i (Nat.le_refl _) hib)]
    obtain ⟨h1, h2⟩ := insInner_in lt2 a i d hid
    have hsz : (insInner lt2 a i d).size = d.size := insInner_size lt2 a i d
    refine insOuter_congr a b h n (i + 1) _ (by omega) (by rw [hsz]; exact hb) (fun p hp1 hp2 q hq1 hq2 => ?_)
    rw [h1 p (by omega)]
    by_cases hq : q ≤ i
    · obtain ⟨q', h3, h4, h5⟩ := h2 q hq1 hq
      rw [h5]
      exact hd p (by omega) hp2 q' h3 (by omega)
    · rw [h1 q (by omega)]
      exact hd p (by omega) hp2 q hq1 hq2
end
/-- Which of two vouchers ends first; of two that end at once, the first. -/
def lexB (key : Nat → Int) (x y : Nat) : Prop := key x < key y ∨ (key x = key y ∧ x < y)
instance (key : Nat → Int) (x y : Nat) : Decidable (lexB key x y) := by unfold lexB; infer_instance
theorem lexB_trans {key : Nat → Int} {x y z : Nat} (h1 : lexB key x y) (h2 : lexB key y z) : lexB key x z := by
  unfold lexB at *
  omega
theorem lexB_ntrans {key : Nat → Int} {x y z : Nat} (h1 : ¬ lexB key x y) (h2 : ¬ lexB key y z) : ¬ lexB key x z := by
  unfold lexB at *
  omega
theorem lexB_irr {key : Nat → Int} {x : Nat} : ¬ lexB key x x := by
  unfold lexB
  omega
theorem lexB_asym {key : Nat → Int} {x y : Nat} (h1 : lexB key x y) : ¬ lexB key y x := by
  unfold lexB at *
  omega
/-- The places below n, sorted by a key. -/
theorem sortedBy (n : Nat) (key : Nat → Int) (cf : Fin (n - 1 + 1) → Fin (n - 1 + 1) → Int) (hcf : ∀ x y, decide (cf x y < 0) = decide (key x.val < key y.val)) :
    ((Sort.insertionSort (ltF cf) (idxF n) 0 n).toList.map (·.val)).Perm (List.range n) ∧ ((Sort.insertionSort (ltF cf) (idxF n) 0 n).toList.map (·.val)).Pairwise (lexB key) := by
  let lt2 : Fin (n - 1 + 1) → Fin (n - 1 + 1) → Bool := fun x y => decide (lexB key x.val y.val)
  have e : Sort.insertionSort (ltF cf) (idxF n) 0 n = Sort.insertionSort lt2 (idxF n) 0 n := by
    unfold Sort.insertionSort
    refine insOuter_congr (ltF cf) lt2 (fun x => x.val) 0 n (fun x y hxy => ?_) _ _ _ rfl (by rw [idxF_size]; exact Nat.le_refl _) (fun p hp1 hp2 q hq1 hq2 => ?_)
    · show decide (cf x y < 0) = decide (lexB key x.val y.val)
      rw [hcf]
      unfold lexB
      congr 1
      simp only [eq_iff_iff]
      constructor
      · exact fun h => .inl h
      · rintro (h | ⟨_, h⟩)
        · exact h
        · omega
    · show ((idxF n)[q]!).val < ((idxF n)[p]!).val
      rw [idxF_val n q (by omega), idxF_val n p (by omega)]
      exact hq2
  rw [e]
  have hswo : Sort.SWO lt2 := by
    refine ⟨fun x => ?_, fun x y z => ?_, fun x y z => ?_⟩
    · show decide (lexB key x.val x.val) = false
      simp only [decide_eq_false_iff_not, lexB]; omega
    · show decide (lexB key x.val y.val) = true → decide (lexB key y.val z.val) = true → decide (lexB key x.val z.val) = true
      intro h1 h2
      exact decide_eq_true (lexB_trans (of_decide_eq_true h1) (of_decide_eq_true h2))
    · show decide (lexB key x.val y.val) = false → decide (lexB key y.val z.val) = false → decide (lexB key x.val z.val) = false
      intro h1 h2
      exact decide_eq_false (lexB_ntrans (of_decide_eq_false h1) (of_decide_eq_false h2))
  obtain ⟨hp, hs⟩ := Sort.insertionSort_holds (lt := lt2) hswo (idxF n) 0 n (Nat.zero_le _) (by rw [idxF_size]; exact Nat.le_refl _)
  generalize Sort.insertionSort lt2 (idxF n) 0 n = d at hp hs
  obtain ⟨h1, h2, h3⟩ := hp
  rw [idxF_size] at h1
  have hr : (idxF n).toList.map (·.val) = List.range n := by
    apply List.ext_getElem
    · simp [idxF_size]
    · intro i h4 h5
      simp [idxF]
  have hperm : (d.toList.map (·.val)).Perm (List.range n) := by
    rw [← hr]
    refine List.Perm.map _ ?_
    have e1 : (d.extract 0 n).toList = d.toList := by
      rw [Array.toList_extract, List.extract_eq_take_drop]
      rw [Nat.sub_zero, List.drop_zero]
      exact List.take_of_length_le (by rw [Array.length_toList]; omega)
    have e2 : ((idxF n).extract 0 n).toList = (idxF n).toList := by
      rw [Array.toList_extract, List.extract_eq_take_drop]
      have := idxF_size n
      rw [Nat.sub_zero, List.drop_zero]
      exact List.take_of_length_le (by rw [Array.length_toList]; omega)
    rw [e1, e2] at h3
    exact h3
  refine ⟨hperm, ?_⟩
  have hnd : (d.toList.map (·.val)).Nodup := hperm.nodup_iff.2 List.nodup_range
  rw [List.pairwise_iff_getElem]
  intro i j hi hj hij
  have hi' : i < d.size := by simpa using hi
  have hj' : j < d.size := by simpa using hj
  have := hs i j (Nat.zero_le _) hij (by omega)
  rw [getElem!_pos _ i hi', getElem!_pos _ j hj'] at this
  simp only [lt2, decide_eq_false_iff_not] at this
  have hne : (d.toList.map (·.val))[i] ≠ (d.toList.map (·.val))[j] := by
    intro e
    have := List.pairwise_iff_getElem.1 hnd i j hi hj hij
    exact this e
  simp only [List.getElem_map, Array.getElem_toList] at hne ⊢
  unfold lexB at this ⊢
  omega
end Go.Proofs.Ytennlgkacijnnaa.Q
