/- What the helpers of the laws come to (sz.., to.., eq..), over lists alone. -/
import Derived.Test.YtcekifhkbdjpdaaDoorQ1
import Derived.Test.YtcekifhkbdjpdaaDoorQ2
import Derived.Test.YtcekifhkbdjpdaaDoorQFit
import Derived.Test.YtcekifhkbdjpdaaDoorLoops
import Derived.Test.YtcekifhkbdjpdaaDoorHVouch
set_option linter.unusedVariables false
set_option linter.unusedSimpArgs false
namespace Go.Proofs.YtcekifhkbdjpdaaDoor.Q
open Go.RowKit Go.Proofs.YtcekifhkbdjpdaaDoorW.PrintWords Go.Proofs.YtcekifhkbdjpdaaDoorW.PrintLast Go.Proofs.YtcekifhkbdjpdaaDoorW.PrintMore Go.Proofs.YtcekifhkbdjpdaaDoor.Loops
def cvVoucher (x : S53) : S51 := ⟨x.f0, x.f1⟩
instance : DecidableEq S51 := fun x y => decidable_of_iff (x.f0 = y.f0 ∧ x.f1 = y.f1) (by cases x; cases y; simp)
theorem voucher_eq (x y : S51) : x = y ↔ x.f0 = y.f0 ∧ x.f1 = y.f1 := by cases x; cases y; simp
theorem szVoucherS_is (l : List S53) (a : Int) (hl : l.length ≤ maxLen) (h0 : 0 ≤ a) (ha : a ≤ 1048576) : laws_szVoucherS.f l a = some (if a - l.length < 0 then -1 else a - l.length) := by
  unfold laws_szVoucherS.f
  have e : wrap64 (a - (l.length : Int)) = a - l.length := by
    unfold maxLen at hl
    unfold wrap64
    omega
  rw [e]
  split <;> rfl
theorem toVoucherS_is (l : List S53) (hl : l.length ≤ 1048576) (k : Nat) (hk : l.length < k) : laws_toVoucherS.f k l = some (l.map cvVoucher) := by
  unfold laws_toVoucherS.f
  rw [if_pos (by omega), if_pos (by omega)]
  exact fill_all laws_toVoucherS.l0 cvVoucher z53 (fun k l xs i => by simp only [laws_toVoucherS.l0, laws_toVoucher.f, Option.bind_some]; rfl) l hl k hk _ (by simp)
theorem eqVoucher_is (x y : S51) : laws_eqVoucher.f x.f0 x.f1 y.f0 y.f1 = some (decide (x = y)) := by
  unfold laws_eqVoucher.f
  simp only [voucher_eq]
  repeat' split
  all_goals simp [*]
theorem eqVoucherS_is (l m : List S51) (hl : l.length ≤ 1048576) (k : Nat) (hk : l.length < k) : laws_eqVoucherS.f k l m = some (decide (l = m)) := by
  unfold laws_eqVoucherS.f
  by_cases h : l.length = m.length
  · rw [if_pos (by omega)]
    refine same_all laws_eqVoucherS.l0 z51 (fun k l m i h0 h1 h2 => ?_) (fun k l m i h => ?_) l m h hl k hk
    · simp only [laws_eqVoucherS.l0]
      rw [if_pos h1, if_pos h0, if_pos (by omega), eqVoucher_is, Option.bind_some]
      by_cases hq : l.getD i.toNat z51 = m.getD i.toNat z51 <;> simp [rd_T51, hq]
    · simp only [laws_eqVoucherS.l0]
      rw [if_neg (by omega)]
  · rw [if_neg (by omega)]
    have : l ≠ m := fun e => h (by rw [e])
    simp [this]
theorem okVoucher_all (l : List S53) (w : l.length ≤ maxLen ∧ ∀ x ∈ l, wf53 x) : (l.map cvVoucher).all okVoucher = true := by
  rw [List.all_eq_true]
  intro x hx
  obtain ⟨z, hz, rfl⟩ := List.mem_map.1 hx
  obtain ⟨g0, g1⟩ := w.2 z hz
  have := bounds_i32 g0
  have := bounds_i16 g1
  rw [okVoucher_iff]
  simp only [cvVoucher]
  omega
end Go.Proofs.YtcekifhkbdjpdaaDoor.Q
