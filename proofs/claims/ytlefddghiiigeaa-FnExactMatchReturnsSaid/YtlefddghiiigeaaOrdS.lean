/- The stable sort of up to 40 places by a key is the order by key and place. -/
import Derived.Test.YtlefddghiiigeaaMD
import Derived.Test.YtlefddghiiigeaaHStable
import Derived.Sort.LotA
set_option linter.unusedVariables false
set_option linter.unusedSimpArgs false
namespace Go.Proofs.Ytlefddghiiigeaa.Q
open Go.RowKit
open Go.Sort (PermIn SortedIn permIn_mono permIn_trans permIn_all insOuter SWO)
theorem stabBy (n : Nat) (hn : n ≤ 40) (key : Nat → Int) (cf : Fin (n - 1 + 1) → Fin (n - 1 + 1) → Int) (hcf : ∀ x y, decide (cf x y < 0) = decide (key x.val < key y.val)) :
    ((stab (ltF cf) (idxF n)).toList.map (·.val)).Perm (List.range n) ∧ ((stab (ltF cf) (idxF n)).toList.map (·.val)).Pairwise (lexB key) := by
  by_cases h20 : n < 20
  · have e : stab (ltF cf) (idxF n) = Sort.insertionSort (ltF cf) (idxF n) 0 n := by unfold stab; rw [if_pos (by rw [idxF_size]; exact h20), idxF_size]
    rw [e]
    exact sortedBy n key cf hcf
  · by_cases e20 : n = 20
    · have e : stab (ltF cf) (idxF n) = Sort.insertionSort (ltF cf) (idxF n) 0 n := by unfold stab; rw [if_neg (by rw [idxF_size]; exact h20), if_pos (by rw [idxF_size]; exact e20)]; exact congrArg (Sort.insertionSort (ltF cf) (idxF n) 0) e20.symm
      rw [e]
      exact sortedBy n key cf hcf
    · have e : stab (ltF cf) (idxF n) = symM (ltF cf) n 0 20 n (Sort.insertionSort (ltF cf) (Sort.insertionSort (ltF cf) (idxF n) 0 20) 20 n) := by
        unfold stab; rw [if_neg (by rw [idxF_size]; exact h20), if_neg (by rw [idxF_size]; exact e20), idxF_size]
      rw [e]
      have hlt : ∀ x y : Fin (n - 1 + 1), y.val < x.val → ltF cf x y = decide (lexB key x.val y.val) := fun x y hxy => by
        show decide (cf x y < 0) = _
        rw [hcf]
        unfold lexB
        congr 1
        simp only [eq_iff_iff]
        constructor
        · exact fun h => .inl h
        · rintro (h | ⟨_, h⟩)
          · exact h
          · omega
      have hS := lexB_swo n key
      have z0 := idxF_size n
      have e1 : Sort.insertionSort (ltF cf) (idxF n) 0 20 = Sort.insertionSort (fun (x y : Fin (n - 1 + 1)) => decide (lexB key x.val y.val)) (idxF n) 0 20 := by
        unfold Sort.insertionSort
        refine insOuter_congr (ltF cf) _ (fun x => x.val) 0 20 hlt _ _ _ rfl (by omega) (fun p hp1 hp2 q hq1 hq2 => ?_)
        show ((idxF n)[q]!).val < ((idxF n)[p]!).val
        rw [idxF_val n q (by omega), idxF_val n p (by omega)]
        exact hq2
      obtain ⟨p1, s1⟩ := Sort.insertionSort_holds hS (idxF n) 0 20 (Nat.zero_le _) (by omega)
      rw [← e1] at p1 s1
      obtain ⟨D1, hD1⟩ : ∃ D, Sort.insertionSort (ltF cf) (idxF n) 0 20 = D := ⟨_, rfl⟩
      rw [hD1] at p1 s1 ⊢
      have zD1 : D1.size = n := by rw [p1.1, z0]
      have hD1 : ∀ i, 20 ≤ i → i < n → (D1[i]!).val = i := fun i h1 h2 => by rw [p1.2.1 i (.inr h1), idxF_val n i h2]
      have e2 : Sort.insertionSort (ltF cf) D1 20 n = Sort.insertionSort (fun (x y : Fin (n - 1 + 1)) => decide (lexB key x.val y.val)) D1 20 n := by
        unfold Sort.insertionSort
        refine insOuter_congr (ltF cf) _ (fun x => x.val) 20 n hlt _ _ _ rfl (by omega) (fun p hp1 hp2 q hq1 hq2 => ?_)
        show (D1[q]!).val < (D1[p]!).val
        rw [hD1 q hq1 (by omega), hD1 p (by omega) hp2]
        exact hq2
      obtain ⟨p2, s2⟩ := Sort.insertionSort_holds hS D1 20 n (by omega) (by omega)
      rw [← e2] at p2 s2
      obtain ⟨D2, hD2⟩ : ∃ D, Sort.insertionSort (ltF cf) D1 20 n = D := ⟨_, rfl⟩
      rw [hD2] at p2 s2 ⊢
      have zD2 : D2.size = n := by rw [p2.1, zD1]
      have lo1 : ∀ i, 0 ≤ i → i < 20 → (D1[i]!).val < 20 := permIn_all (idxF n) D1 0 20 (fun x => x.val < 20) (by omega) p1 (fun i _ h => by rw [idxF_val n i (by omega)]; exact h)
      have lo2 : ∀ i, i < 20 → (D2[i]!).val < 20 := fun i h => by rw [p2.2.1 i (.inl h)]; exact lo1 i (Nat.zero_le _) h
      have hi2 : ∀ i, 20 ≤ i → i < n → 20 ≤ (D2[i]!).val := permIn_all D1 D2 20 n (fun x => 20 ≤ x.val) (by omega) p2 (fun i h1 h2 => by rw [hD1 i h1 h2]; exact h1)
      have s1' : SortedIn (fun (x y : Fin (n - 1 + 1)) => decide (lexB key x.val y.val)) 0 20 D2 := Go.Sort.SortedIn.congrA s1 (fun p hp => p2.2.1 p (.inl hp))
      obtain ⟨p3, s3⟩ := symM_is hS n 0 20 n D2 (by omega) (by omega) (by omega) (by omega) s1' s2 (fun i j _ hi hj1 hj2 => hlt _ _ (by have := lo2 i hi; have := hi2 j hj1 hj2; omega))
      have P1 : PermIn 0 n (idxF n) D1 := permIn_mono _ _ 0 20 0 n (by omega) (by omega) (by omega) p1
      have P2 : PermIn 0 n D1 D2 := permIn_mono _ _ 20 n 0 n (by omega) (by omega) (by omega) p2
      exact ordered_of (permIn_trans _ _ _ _ _ (permIn_trans _ _ _ _ _ P1 P2) p3) s3
end Go.Proofs.Ytlefddghiiigeaa.Q
