/- The pure statement of FnExactExchangesFor: both sides tell the same number and the same code, for all lists. -/
import Derived.Test.YtpblkgnmddmheaaSpecSwap
import Derived.Test.YtpblkgnmddmheaaHSwaps
import Derived.Test.YtpblkgnmddmheaaLoops
import Derived.Test.YtpblkgnmddmheaaQ5
set_option linter.unusedVariables false
set_option linter.unusedSimpArgs false
namespace Go.Proofs.Ytpblkgnmddmheaa.Q
open Go.RowKit Go.Proofs.YtpblkgnmddmheaaW.PrintWords Go.Proofs.YtpblkgnmddmheaaW.PrintLast Go.Proofs.YtpblkgnmddmheaaW.PrintMore Go.Proofs.Ytpblkgnmddmheaa.Loops
theorem toInt64S_is (l : List Int) (hl : l.length ≤ 1048576) (k : Nat) (hk : l.length < k) : laws_toInt64S.f k l = some l := by
  unfold laws_toInt64S.f
  rw [if_pos (by omega), if_pos (by omega)]
  have := fill_all laws_toInt64S.l0 id 0 (fun k l xs i => by simp only [laws_toInt64S.l0]; rfl) l hl k hk (List.replicate ((l.length : Int) : Int).toNat 0) (by simp)
  rw [List.map_id] at this
  exact this
theorem eqInt64S_is (l m : List Int) (hl : l.length ≤ 1048576) (k : Nat) (hk : l.length < k) : laws_eqInt64S.f k l m = some (decide (l = m)) := by
  unfold laws_eqInt64S.f
  by_cases h : l.length = m.length
  · rw [if_pos (by omega)]
    refine same_all laws_eqInt64S.l0 0 (fun k l m i h0 h1 h2 => ?_) (fun k l m i h => ?_) l m h hl k hk
    · simp only [laws_eqInt64S.l0]
      rw [if_pos h1, if_pos h0, if_pos (by omega)]
      by_cases hq : l.getD i.toNat 0 = m.getD i.toNat 0 <;> simp [rd, hq]
    · simp only [laws_eqInt64S.l0]
      rw [if_neg (by omega)]
  · rw [if_neg (by omega)]
    have : l ≠ m := fun e => h (by rw [e])
    simp [this]
def exS : Int → List (List Int) → Int
  | acc, [] => acc
  | acc, r :: rs => exS (wrap64 (acc + wrap64 ((r.length : Int) - 1))) rs
theorem rdL_nat (l : List (List Int)) (i : Nat) : rd_L1 l (i : Int) = l.getD i [] := by simp [rd_L1]
theorem iEx_loop (c : Int) (rs : List (List Int)) (hl : rs.length ≤ 1000) (s : Nat) : ∀ (acc : Int) (i k : Nat), i + s = rs.length → s < k → impl_ExchangesFor.l0 k c acc rs (rs.length : Int) i = some (exS acc (rs.drop i), c) := by
  induction s with
  | zero =>
    intro acc i k hi hk
    obtain ⟨k, rfl⟩ : ∃ k', k = k' + 1 := ⟨k - 1, by omega⟩
    rw [impl_ExchangesFor.l0, if_neg (by omega), List.drop_of_length_le (by omega)]
    rfl
  | succ s ih =>
    intro acc i k hi hk
    obtain ⟨k, rfl⟩ : ∃ k', k = k' + 1 := ⟨k - 1, by omega⟩
    rw [impl_ExchangesFor.l0, if_pos (by omega), if_pos (by omega), if_pos (by omega), rdL_nat, drop_cons_of rs [] i (by omega)]
    unfold impl_size_int64.f
    rw [Option.bind_some, w64 (n := (i : Int) + 1) (by omega) (by omega), show (i : Int) + 1 = ((i + 1 : Nat) : Int) by omega, ih _ (i + 1) k (by omega) (by omega)]
    rfl
theorem sEx_loop (rs : List (List Int)) (hl : rs.length ≤ 1000) (s : Nat) : ∀ (acc : Int) (i k : Nat), i + s = rs.length → s < k → spec_ExchangesFor.l0 k acc rs i = some (exS acc (rs.drop i), 0) := by
  induction s with
  | zero =>
    intro acc i k hi hk
    obtain ⟨k, rfl⟩ : ∃ k', k = k' + 1 := ⟨k - 1, by omega⟩
    rw [spec_ExchangesFor.l0, if_neg (by omega), List.drop_of_length_le (by omega)]
    rfl
  | succ s ih =>
    intro acc i k hi hk
    obtain ⟨k, rfl⟩ : ∃ k', k = k' + 1 := ⟨k - 1, by omega⟩
    rw [spec_ExchangesFor.l0, if_pos (by omega), if_pos (by omega), rdL_nat, drop_cons_of rs [] i (by omega)]
    rw [w64 (n := (i : Int) + 1) (by omega) (by omega), show (i : Int) + 1 = ((i + 1 : Nat) : Int) by omega, ih _ (i + 1) k (by omega) (by omega)]
    rfl
theorem outI_len (W G : List Int) (s : Nat) : ∀ (met : List Bool) (out : List (List Int)) (i : Nat), (outI W G s met out i).length ≤ out.length + s := by
  induction s with
  | zero => intro met out i; exact Nat.le_refl _
  | succ s ih =>
    intro met out i
    rw [outI]
    refine Nat.le_trans (ih _ _ _) ?_
    split
    · simp; omega
    · omega
theorem rings_len {W G : List Int} (h : areSwB W G = true) : (ringsI W G).length ≤ 9 := by
  have h9 := (Sw.of h).n9
  have := outI_len W G W.length (List.replicate W.length false) [] 0
  unfold ringsI
  simp at this
  omega
def exR (l m : List Int) : Int × Int := if areSwB l m = true then (exS 0 (ringsI l m), 0) else (0, 1)
theorem iExchanges_is (l m : List Int) (hl : l.length ≤ 1048576) (hm : m.length ≤ 1048576) (k : Nat) (hk : 400 ≤ k) : impl_ExchangesFor.f k l m = some (exR l m) := by
  unfold impl_ExchangesFor.f impl_SwapsFor.f swapsR exR
  rw [if_pos ⟨hl, hm⟩, Option.bind_some]
  by_cases h : areSwB l m = true
  · rw [if_pos h, if_pos h]
    have h9 := rings_len h
    have := iEx_loop 0 (ringsI l m) (by omega) (ringsI l m).length 0 0 k (by omega) (by omega)
    simpa using this
  · rw [if_neg h, if_neg h]
    have := iEx_loop 1 [] (by simp) 0 0 0 k (by simp) (by omega)
    simpa [exS] using this
theorem sExchanges_is (l m : List Int) (k : Nat) (hk : 400 ≤ k) : spec_ExchangesFor.f k l m = some (exR l m) := by
  unfold spec_ExchangesFor.f exR
  rw [sSwapped_is l m k (by omega), Option.bind_some]
  by_cases h : areSwB l m = true
  · rw [if_pos h, if_pos h, sRings_is h k hk, Option.bind_some]
    have h9 := rings_len h
    have := sEx_loop (ringsI l m) (by omega) (ringsI l m).length 0 0 k (by omega) (by omega)
    simpa using this
  · rw [if_neg h, if_neg h]
theorem Pure.FnExactExchangesFor (y0 : List Int) (y1 : List Int) (w0 : (y0.length ≤ maxLen ∧ ∀ x ∈ y0, (Lit.int .i64 x).wf = true)) (w1 : (y1.length ≤ maxLen ∧ ∀ x ∈ y1, (Lit.int .i64 x).wf = true)) : ∃ k, laws_FnExactExchangesFor.f k y0 y1 = some true := by
  by_cases h0 : (y0.length : Int) > 1048576
  · refine ⟨0, ?_⟩
    unfold laws_FnExactExchangesFor.f
    rw [if_pos h0]
  by_cases h1 : (y1.length : Int) > 1048576
  · refine ⟨0, ?_⟩
    unfold laws_FnExactExchangesFor.f
    rw [if_neg h0, if_pos h1]
  have hl : y0.length ≤ 1048576 := by omega
  have hm : y1.length ≤ 1048576 := by omega
  have T0 : ∀ k, y0.length < k → laws_toInt64S.f k y0 = some y0 := fun k hk => toInt64S_is y0 hl k hk
  have T1 : ∀ k, y1.length < k → laws_toInt64S.f k y1 = some y1 := fun k hk => toInt64S_is y1 hm k hk
  have E0 : ∀ k, y0.length < k → laws_eqInt64S.f k y0 y0 = some true := fun k hk => by rw [eqInt64S_is y0 y0 hl k hk]; simp
  have E1 : ∀ k, y1.length < k → laws_eqInt64S.f k y1 y1 = some true := fun k hk => by rw [eqInt64S_is y1 y1 hm k hk]; simp
  obtain ⟨r, c, hr⟩ : ∃ r c, exR y0 y1 = (r, c) := ⟨_, _, rfl⟩
  refine ⟨y0.length + y1.length + 410, ?_⟩
  unfold laws_FnExactExchangesFor.f
  rw [if_neg h0, if_neg h1, T0 _ (by omega)]
  simp only [Option.bind_some]
  rw [T1 _ (by omega)]
  simp only [Option.bind_some]
  rw [sExchanges_is y0 y1 _ (by omega)]
  simp only [Option.bind_some]
  rw [iExchanges_is y0 y1 hl hm _ (by omega), hr]
  simp only [Option.bind_some, if_true, bne_self_eq_false]
  rw [laws_FnExactExchangesFor.j0, if_neg (by simp), T0 _ (by omega)]
  simp only [Option.bind_some]
  rw [E0 _ (by omega)]
  simp only [Option.bind_some, if_true]
  rw [T1 _ (by omega)]
  simp only [Option.bind_some]
  rw [E1 _ (by omega)]
  simp only [Option.bind_some, if_true]
end Go.Proofs.Ytpblkgnmddmheaa.Q
