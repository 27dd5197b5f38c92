/- What MatchReturns returns on both sides. -/
import Derived.Test.YtlefddghiiigeaaMatSides
import Derived.Test.YtlefddghiiigeaaQ8
set_option linter.unusedVariables false
set_option linter.unusedSimpArgs false
namespace Go.Proofs.Ytlefddghiiigeaa.Q
open Go.RowKit Go.Proofs.YtlefddghiiigeaaW.PrintWords Go.Proofs.YtlefddghiiigeaaW.PrintMore Go.Proofs.Ytlefddghiiigeaa.Loops
def matRes (l : List S55) (m : List S50) (days : Int) : List S53 × Int := if codeM l m days = 0 then ((runI l m days).1.o, 0) else ([], codeM l m days)
section
variable (l : List S55) (m : List S50) (days : Int) (hok : l.all okOrder = true) (hom : m.all okReturn = true)
theorem iMatR_is (k : Nat) (hk : 0 < k) (hok : l.all okOrder = true) (hom : m.all okReturn = true) : impl_MatchReturns.f k l m days = some (matRes l m days) := by
  unfold impl_MatchReturns.f matRes
  rw [iDays_is l m days k hk hok hom, Option.bind_some]
  by_cases h : codeM l m days = 0
  · rw [if_pos h, if_pos h, iMat_is l m days hok hom h]; rfl
  · rw [if_neg h, if_neg h]
theorem sMatR_is (k : Nat) (hk : l.length + m.length + 1 < k) (hl : l.length ≤ 1048576) (hm : m.length ≤ 1048576) (hok : l.all okOrder = true) (hom : m.all okReturn = true) : spec_MatchReturns.f k l m days = some (matRes l m days) := by
  have hc := sCode_is l m days k hk hl hm hok hom
  unfold spec_MatchReturns.f matRes
  unfold spec_l06Days.f at hc ⊢
  rw [sIn_is, Option.bind_some, Option.bind_some] at hc ⊢
  rw [hc, Option.bind_some]
  by_cases h : codeM l m days = 0
  · rw [if_pos h, if_pos h, sMat_is l m days hok hom h]; rfl
  · rw [if_neg h, if_neg h]
theorem mat_short (hok : l.all okOrder = true) (hom : m.all okReturn = true) : (matRes l m days).1.length ≤ 1600 := by
  unfold matRes
  split
  · rename_i h
    obtain ⟨h1, h2⟩ := codeM_zero h
    obtain ⟨a1, a2⟩ := ordersB_in h1 hok
    obtain ⟨b1, b2⟩ := returnsB_in h2 hom
    exact run_short l m days a1 b1
  · simp
end
end Go.Proofs.Ytlefddghiiigeaa.Q
