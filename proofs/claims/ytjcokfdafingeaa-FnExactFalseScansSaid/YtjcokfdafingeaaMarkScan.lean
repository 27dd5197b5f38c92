/- What marking a list of scans comes to, over lists alone; what stands behind the answer of a law on a net and scans (the same for FalseScans, MostScans). -/
import Derived.Test.YtjcokfdafingeaaFit7
set_option linter.unusedVariables false
set_option linter.unusedSimpArgs false
namespace Go.Proofs.Ytjcokfdafingeaa.Q
open Go.RowKit Go.Proofs.YtjcokfdafingeaaW.PrintWords Go.Proofs.Ytjcokfdafingeaa.Loops
theorem markScanS_is (l : List S47) (hl : l.length ≤ 1048576) (k : Nat) (hk : l.length < k) (a : Int) (ha : 0 ≤ a) (hb : a ≤ 1048576 * 1048576) : ∃ l', laws_markScanS.f k l a = some (a + 2 * l.length, l') := by
  unfold laws_markScanS.f
  refine mark_loop laws_markScanS.l0 2 (by omega) (fun k l a i h0 h1 ha hb => ?_) (fun k l a i h => ?_) l.length k l a 0 hl (by omega) (by omega) hk ha (by omega)
  · simp only [laws_markScanS.l0]
    rw [if_pos h1, if_pos h0]
    simp only [Option.bind_some]
    have e1 : wrap64 (a + 1) = a + 1 := wrap_mid (by omega) (by omega)
    have e2 : wrap64 (a + 1 + 1) = a + ((2 : Nat) : Int) := by rw [wrap_mid (by omega) (by omega)]; omega
    rw [e1, e2]
    exact ⟨_, by simp only [List.length_set], rfl⟩
  · simp only [laws_markScanS.l0]
    rw [if_neg (by omega)]
end Go.Proofs.Ytjcokfdafingeaa.Q
