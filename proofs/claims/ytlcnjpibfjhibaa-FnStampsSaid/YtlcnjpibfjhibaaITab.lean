/- spec's table of the fewest stamps: over lists alone. -/
import Derived.Test.YtlcnjpibfjhibaaTabMath
set_option linter.unusedVariables false
set_option linter.unusedSimpArgs false
namespace Go.Proofs.Ytlcnjpibfjhibaa.Q
open Go.RowKit Go.Proofs.YtlcnjpibfjhibaaW.PrintWords
open Go.Proofs.Ytlcnjpibfjhibaa.Pay
/-- One number of stamps of a value, for one amount: the least so far, -1 for none. -/
def icell (prev : List Int) (v at_ : Int) : Nat → Int
  | 0 => -1
  | k + 1 => if 0 ≤ prev.getD (at_ - k * v).toNat 0 ∧ (icell prev v at_ k < 0 ∨ prev.getD (at_ - k * v).toNat 0 + k < icell prev v at_ k) then prev.getD (at_ - k * v).toNat 0 + k else icell prev v at_ k
def irow (prev : List Int) (v h : Int) (m : Nat) : List Int := (List.range m).map fun (a : Nat) => icell prev v (a : Int) (cellK v h (a : Int))
def ilast (m : Nat) : List Int := (List.replicate m (-1)).set 0 0
def itab (vs hs : List Int) (m : Nat) : Nat → List Int
  | 0 => ilast m
  | d + 1 => irow (itab vs hs m d) (vs.getD (vs.length - (d + 1)) 0) (hs.getD (vs.length - (d + 1)) 0) m
theorem irow_length (prev : List Int) (v h : Int) (m : Nat) : (irow prev v h m).length = m := by simp [irow]
theorem ilast_length (m : Nat) : (ilast m).length = m := by simp [ilast]
theorem itab_length (vs hs : List Int) (m : Nat) : ∀ d, (itab vs hs m d).length = m
  | 0 => ilast_length m
  | d + 1 => irow_length _ _ _ _
theorem irow_get (prev : List Int) (v h : Int) (m a : Nat) (ha : a < m) : (irow prev v h m).getD a 0 = icell prev v (a : Int) (cellK v h (a : Int)) := by
  simp [irow, List.getD_eq_getElem?_getD, ha]
/-- A row of spec's and one of impl's tell the same. -/
def SameRow (m : Nat) (I : List Int) (L : List S80) : Prop :=
  ∀ a : Nat, a < m → (0 ≤ (L.getD a z80).f0 ∧ 0 ≤ (L.getD a z80).f1) ∧ I.getD a 0 = if (L.getD a z80).f0 = 0 then -1 else (L.getD a z80).f1
theorem icell_same {m : Nat} {I : List Int} {L : List S80} (H : SameRow m I L) {v : Int} (h1 : 1 ≤ v) {a : Nat} (ha : a < m) : ∀ K : Nat, (K : Int) * v ≤ a + v →
    (0 ≤ (cellAt L v (a : Int) K).f0 ∧ 0 ≤ (cellAt L v (a : Int) K).f1) ∧ icell I v (a : Int) K = if (cellAt L v (a : Int) K).f0 = 0 then -1 else (cellAt L v (a : Int) K).f1
  | 0, _ => ⟨by simp [cellAt, z80], by simp [cellAt, icell, z80]⟩
  | K + 1, hK => by
    have e : ((K + 1 : Nat) : Int) * v = (K : Int) * v + v := by rw [Int.natCast_add, Int.add_mul]; simp
    rw [e] at hK
    have hkv : 0 ≤ (K : Int) * v := Int.mul_nonneg (by omega) (by omega)
    have hx : ((a : Int) - K * v).toNat < m := by omega
    obtain ⟨⟨g0, g1⟩, gI⟩ := H _ hx
    obtain ⟨⟨i0, i1⟩, iI⟩ := icell_same H h1 ha K (by omega)
    rw [icell, cellAt, cellStep]
    rw [gI, iI]
    generalize cellAt L v (a : Int) K = acc at i0 i1 ⊢
    generalize L.getD ((a : Int) - K * v).toNat z80 = p at g0 g1 ⊢
    obtain ⟨p0, p1⟩ := p
    obtain ⟨a0, a1⟩ := acc
    simp only at g0 g1 i0 i1 ⊢
    by_cases hp : p0 = 0
    · simp only [if_pos hp]
      refine ⟨⟨i0, i1⟩, ?_⟩
      rw [if_neg (fun h => absurd h.1 (by decide))]
    · simp only [if_neg hp]
      by_cases ha0 : a0 = 0
      · simp only [if_pos ha0]
        rw [if_pos (.inl ha0), if_pos ⟨g1, .inl (by decide)⟩, if_neg (show ¬ a0 + p0 = 0 by omega)]
        exact ⟨⟨by omega, by omega⟩, rfl⟩
      · simp only [if_neg ha0]
        rw [if_neg (show ¬ a0 + p0 = 0 by omega)]
        by_cases hc : p1 + (K : Int) < a1
        · rw [if_pos (.inr hc), if_pos ⟨g1, .inr hc⟩]
          exact ⟨⟨by omega, by omega⟩, rfl⟩
        · rw [if_neg (fun h => h.elim ha0 hc), if_neg (fun h => h.2.elim (fun h9 => by omega) hc)]
          exact ⟨⟨by omega, by omega⟩, rfl⟩
theorem cellK_same {v h g : Int} (hv : 1 ≤ v) {a : Nat} (h1 : (a : Int) ≤ h) (g1 : (a : Int) ≤ g) : cellK v h (a : Int) = cellK v g (a : Int) := by
  unfold cellK
  have h2 : (a : Int) / v ≤ a := Int.ediv_le_self _ (by omega)
  have h3 : 0 ≤ (a : Int) / v := Int.ediv_nonneg (by omega) (by omega)
  omega
theorem irow_same {m : Nat} {I : List Int} {L : List S80} (H : SameRow m I L) {v h g : Int} (hv : 1 ≤ v) (hh : (m : Int) ≤ h) (hg : (m : Int) ≤ g) : SameRow m (irow I v h m) (rowT L v g m) := by
  intro a ha
  rw [irow_get _ _ _ _ _ ha, rowT_get _ _ _ _ _ ha, cellK_same hv (show (a : Int) ≤ h by omega) (show (a : Int) ≤ g by omega)]
  exact icell_same H hv ha _ (cellK_le hv (by omega) a).2
theorem ilast_same (m : Nat) : SameRow m (ilast m) (lastT m) := by
  intro a ha
  rw [lastT_get m a ha]
  unfold ilast
  by_cases h : a = 0
  · subst h
    simp [List.getD_eq_getElem?_getD, ha]
  · simp [h, Ne.symm h, List.getD_eq_getElem?_getD, ha, z80]
/-- spec's table tells what impl's tells. -/
theorem itab_same {vs hs gs : List Int} (m : Nat) (hl : vs.length = hs.length) (gl : vs.length = gs.length) (hv : ∀ x ∈ vs, 1 ≤ x) (hh : ∀ h ∈ hs, (m : Int) ≤ h) (hg : ∀ h ∈ gs, (m : Int) ≤ h) : ∀ d, d ≤ vs.length → SameRow m (itab vs hs m d) (tabD vs gs m d)
  | 0, _ => ilast_same m
  | d + 1, hd => by
    have ih := itab_same m hl gl hv hh hg d (by omega)
    have mm : ∀ (l : List Int), vs.length = l.length → l.getD (vs.length - (d + 1)) 0 ∈ l := fun l hl => by
      rw [List.getD_eq_getElem?_getD, List.getElem?_eq_getElem (by omega)]
      exact List.getElem_mem _
    exact irow_same ih (hv _ (mm vs rfl)) (hh _ (mm hs hl)) (hg _ (mm gs gl))
end Go.Proofs.Ytlcnjpibfjhibaa.Q
