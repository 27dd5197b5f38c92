/- spec's l06Days, l06Vouchers over lists alone. -/
import Derived.Test.YtcekifhkbdjpdaaDoorHelpRV
import Derived.Test.YtcekifhkbdjpdaaDoorOLoops
set_option linter.unusedVariables false
set_option linter.unusedSimpArgs false
namespace Go.Proofs.YtcekifhkbdjpdaaDoor.Q
open Go.RowKit Go.Proofs.YtcekifhkbdjpdaaDoorW.PrintWords Go.Proofs.YtcekifhkbdjpdaaDoorW.PrintLast Go.Proofs.YtcekifhkbdjpdaaDoorW.PrintMore Go.Proofs.YtcekifhkbdjpdaaDoor.Loops
theorem vIn_is (a lo hi : Int) : spec_l00In.f a lo hi = some (inB a lo hi) := by
  unfold spec_l00In.f inB
  split
  · rename_i h
    simp [h]
  · rename_i h
    simp only [Option.some.injEq]
    rw [eq_comm, decide_eq_false_iff_not]
    omega
theorem sDays_is (a : Int) : spec_l06Days.f a = some (inB a 0 1000) := by
  unfold spec_l06Days.f
  rw [vIn_is, Option.bind_some]
theorem sVouchers_is (l : List S51) (hok : l.all okVoucher = true) (hl : l.length ≤ 1048576) (k : Nat) (hk : l.length < k) : spec_l06Vouchers.f k l = some (vouchersB l) := by
  unfold spec_l06Vouchers.f
  have := all_from (fun k i => spec_l06Vouchers.l0 k l i) (fun x => !voucherBad x) z51 l (some false) (some (decide ((l.length : Int) ≤ 12))) 0 (fun k i hi _ => ?_) (fun k _ => ?_) k (by omega)
  · refine this.trans ?_
    unfold vouchersB
    by_cases h : l.any voucherBad = true
    · rw [if_neg, h]
      · simp
      · rw [List.all_eq_true]
        intro hq
        obtain ⟨x, hx, hb⟩ := List.any_eq_true.1 h
        have := hq x hx
        rw [hb] at this
        cases this
    · have h' : l.any voucherBad = false := by simpa using h
      rw [if_pos, h']
      · simp
      · rw [List.all_eq_true]
        intro x hx
        have := List.any_eq_false.1 h' x hx
        simp [this]
  · show spec_l06Vouchers.l0 (k + 1) l i = _
    simp only [spec_l06Vouchers.l0]
    rw [if_pos (by omega), if_pos (by omega)]
    have hx := okVoucher_iff.1 (List.all_eq_true.1 hok _ (getD_mem l z51 i hi))
    simp only [rd_T51, Int.toNat_natCast]
    generalize l.getD i z51 = x at hx
    rw [wrap_mid (i := x.f0) (by omega) (by omega), wrap_mid (i := x.f1) (by omega) (by omega), wrap_mid (i := (i : Int) + 1) (by omega) (by omega)]
    simp only [vIn_is, sDays_is, Option.bind_some, voucherBad]
    rw [show ((i : Int) + 1) = ((i + 1 : Nat) : Int) by omega]
    by_cases h1 : inB x.f0 0 1000000 = true <;> by_cases h2 : inB x.f1 0 1000 = true <;> simp [h1, h2]
  · show spec_l06Vouchers.l0 (k + 1) l _ = _
    simp only [spec_l06Vouchers.l0]
    rw [if_neg (by omega)]
end Go.Proofs.YtcekifhkbdjpdaaDoor.Q
