/- What the helpers of the law on texts of vouchers come to (eq.., mark.., held..), over lists alone. -/
import Derived.Test.YtcekifhkbdjpdaaDoorQ1
import Derived.Test.YtcekifhkbdjpdaaDoorQ2
import Derived.Test.YtcekifhkbdjpdaaDoorQFit
import Derived.Test.YtcekifhkbdjpdaaDoorLoops
import Derived.Test.YtcekifhkbdjpdaaDoorHVouch
set_option linter.unusedVariables false
set_option linter.unusedSimpArgs false
namespace Go.Proofs.YtcekifhkbdjpdaaDoor.Q
open Go.RowKit Go.Proofs.YtcekifhkbdjpdaaDoorW.PrintWords Go.Proofs.YtcekifhkbdjpdaaDoorW.PrintLast Go.Proofs.YtcekifhkbdjpdaaDoorW.PrintMore Go.Proofs.YtcekifhkbdjpdaaDoor.Loops
instance : DecidableEq S51 := fun x y => decidable_of_iff (x.f0 = y.f0 ∧ x.f1 = y.f1) (by cases x; cases y; simp)
theorem voucher_eq (x y : S51) : x = y ↔ x.f0 = y.f0 ∧ x.f1 = y.f1 := by cases x; cases y; simp
theorem eqVoucher_is (x y : S51) : laws_eqVoucher.f x.f0 x.f1 y.f0 y.f1 = some (decide (x = y)) := by
  unfold laws_eqVoucher.f
  simp only [voucher_eq]
  repeat' split
  all_goals simp [*]
theorem eqVoucherS_is (l m : List S51) (hl : l.length ≤ 1048576) (k : Nat) (hk : l.length < k) : laws_eqVoucherS.f k l m = some (decide (l = m)) := by
  unfold laws_eqVoucherS.f
  by_cases h : l.length = m.length
  · rw [if_pos (by omega)]
    refine same_all laws_eqVoucherS.l0 z51 (fun k l m i h0 h1 h2 => ?_) (fun k l m i h => ?_) l m h hl k hk
    · simp only [laws_eqVoucherS.l0]
      rw [if_pos h1, if_pos h0, if_pos (by omega), eqVoucher_is, Option.bind_some]
      by_cases hq : l.getD i.toNat z51 = m.getD i.toNat z51 <;> simp [rd_T51, hq]
    · simp only [laws_eqVoucherS.l0]
      rw [if_neg (by omega)]
  · rw [if_neg (by omega)]
    have : l ≠ m := fun e => h (by rw [e])
    simp [this]
end Go.Proofs.YtcekifhkbdjpdaaDoor.Q
