/- How many exchanges are due: both sides, as plain sums (out of the pure statement of FnExactExchangesFor). -/
import Derived.Test.YtgjpnamckkedfaaSpecSwap
import Derived.Test.YtgjpnamckkedfaaHSwaps
import Derived.Test.YtgjpnamckkedfaaLoops
import Derived.Test.YtgjpnamckkedfaaQ4
set_option linter.unusedVariables false
set_option linter.unusedSimpArgs false
namespace Go.Proofs.Ytgjpnamckkedfaa.Q
open Go.RowKit Go.Proofs.YtgjpnamckkedfaaW.PrintWords Go.Proofs.YtgjpnamckkedfaaW.PrintLast Go.Proofs.YtgjpnamckkedfaaW.PrintMore Go.Proofs.Ytgjpnamckkedfaa.Loops
def exS : Int → List (List Int) → Int
  | acc, [] => acc
  | acc, r :: rs => exS (wrap64 (acc + wrap64 ((r.length : Int) - 1))) rs
theorem rdL_nat (l : List (List Int)) (i : Nat) : rd_L2 l (i : Int) = l.getD i [] := by simp [rd_L2]
theorem iEx_loop (c : Int) (rs : List (List Int)) (hl : rs.length ≤ 1000) (s : Nat) : ∀ (acc : Int) (i k : Nat), i + s = rs.length → s < k → impl_ExchangesFor.l0 k c acc rs (rs.length : Int) i = some (exS acc (rs.drop i), c) := by
  induction s with
  | zero =>
    intro acc i k hi hk
    obtain ⟨k, rfl⟩ : ∃ k', k = k' + 1 := ⟨k - 1, by omega⟩
    rw [impl_ExchangesFor.l0, if_neg (by omega), List.drop_of_length_le (by omega)]
    rfl
  | succ s ih =>
    intro acc i k hi hk
    obtain ⟨k, rfl⟩ : ∃ k', k = k' + 1 := ⟨k - 1, by omega⟩
    rw [impl_ExchangesFor.l0, if_pos (by omega), if_pos (by omega), if_pos (by omega), rdL_nat, drop_cons_of rs [] i (by omega)]
    unfold impl_size_int64.f
    rw [Option.bind_some, w64 (n := (i : Int) + 1) (by omega) (by omega), show (i : Int) + 1 = ((i + 1 : Nat) : Int) by omega, ih _ (i + 1) k (by omega) (by omega)]
    rfl
theorem sEx_loop (rs : List (List Int)) (hl : rs.length ≤ 1000) (s : Nat) : ∀ (acc : Int) (i k : Nat), i + s = rs.length → s < k → spec_ExchangesFor.l0 k acc rs i = some (exS acc (rs.drop i), 0) := by
  induction s with
  | zero =>
    intro acc i k hi hk
    obtain ⟨k, rfl⟩ : ∃ k', k = k' + 1 := ⟨k - 1, by omega⟩
    rw [spec_ExchangesFor.l0, if_neg (by omega), List.drop_of_length_le (by omega)]
    rfl
  | succ s ih =>
    intro acc i k hi hk
    obtain ⟨k, rfl⟩ : ∃ k', k = k' + 1 := ⟨k - 1, by omega⟩
    rw [spec_ExchangesFor.l0, if_pos (by omega), if_pos (by omega), rdL_nat, drop_cons_of rs [] i (by omega)]
    rw [w64 (n := (i : Int) + 1) (by omega) (by omega), show (i : Int) + 1 = ((i + 1 : Nat) : Int) by omega, ih _ (i + 1) k (by omega) (by omega)]
    rfl
theorem outI_len (W G : List Int) (s : Nat) : ∀ (met : List Bool) (out : List (List Int)) (i : Nat), (outI W G s met out i).length ≤ out.length + s := by
  induction s with
  | zero => intro met out i; exact Nat.le_refl _
  | succ s ih =>
    intro met out i
    rw [outI]
    refine Nat.le_trans (ih _ _ _) ?_
    split
    · simp; omega
    · omega
theorem rings_len {W G : List Int} (h : areSwB W G = true) : (ringsI W G).length ≤ 9 := by
  have h9 := (Sw.of h).n9
  have := outI_len W G W.length (List.replicate W.length false) [] 0
  unfold ringsI
  simp at this
  omega
def exR (l m : List Int) : Int × Int := if areSwB l m = true then (exS 0 (ringsI l m), 0) else (0, 1)
theorem iExchanges_is (l m : List Int) (hl : l.length ≤ 1048576) (hm : m.length ≤ 1048576) (k : Nat) (hk : 400 ≤ k) : impl_ExchangesFor.f k l m = some (exR l m) := by
  unfold impl_ExchangesFor.f impl_SwapsFor.f swapsR exR
  rw [if_pos ⟨hl, hm⟩, Option.bind_some]
  by_cases h : areSwB l m = true
  · rw [if_pos h, if_pos h]
    have h9 := rings_len h
    have := iEx_loop 0 (ringsI l m) (by omega) (ringsI l m).length 0 0 k (by omega) (by omega)
    simpa using this
  · rw [if_neg h, if_neg h]
    have := iEx_loop 1 [] (by simp) 0 0 0 k (by simp) (by omega)
    simpa [exS] using this
theorem sExchanges_is (l m : List Int) (k : Nat) (hk : 400 ≤ k) : spec_ExchangesFor.f k l m = some (exR l m) := by
  unfold spec_ExchangesFor.f exR
  rw [sSwapped_is l m k (by omega), Option.bind_some]
  by_cases h : areSwB l m = true
  · rw [if_pos h, if_pos h, sRings_is h k hk, Option.bind_some]
    have h9 := rings_len h
    have := sEx_loop (ringsI l m) (by omega) (ringsI l m).length 0 0 k (by omega) (by omega)
    simpa using this
  · rw [if_neg h, if_neg h]
end Go.Proofs.Ytgjpnamckkedfaa.Q
