/- spec's l06Days, l06Vouchers, l06On, l06Worth and impl's voucherCode, worthAt over lists alone. -/
import Derived.Test.YtennlgkacijnnaaHelp6V
import Derived.Test.YtennlgkacijnnaaOLoops
import Derived.Test.YtennlgkacijnnaaQ10
set_option linter.unusedVariables false
set_option linter.unusedSimpArgs false
namespace Go.Proofs.Ytennlgkacijnnaa.Q
open Go.RowKit Go.Proofs.YtennlgkacijnnaaW.PrintWords Go.Proofs.YtennlgkacijnnaaW.PrintLast Go.Proofs.YtennlgkacijnnaaW.PrintMore Go.Proofs.Ytennlgkacijnnaa.Loops
theorem vIn_is (a lo hi : Int) : spec_l00In.f a lo hi = some (inB a lo hi) := by
  unfold spec_l00In.f inB
  split
  · rename_i h
    simp [h]
  · rename_i h
    simp only [Option.some.injEq]
    rw [eq_comm, decide_eq_false_iff_not]
    omega
theorem iWithin_is (a lo hi : Int) : impl_within.f a lo hi = some (inB a lo hi) := by
  unfold impl_within.f inB
  split
  · rename_i h
    simp [h]
  · rename_i h
    simp only [Option.some.injEq]
    rw [eq_comm, decide_eq_false_iff_not]
    omega
theorem sDays_is (a : Int) : spec_l06Days.f a = some (inB a 0 1000) := by
  unfold spec_l06Days.f
  rw [vIn_is, Option.bind_some]
theorem sVouchers_is (l : List S87) (hok : l.all okVoucher = true) (hl : l.length ≤ 1048576) (k : Nat) (hk : l.length < k) : spec_l06Vouchers.f k l = some (vouchersB l) := by
  unfold spec_l06Vouchers.f
  have := all_from (fun k i => spec_l06Vouchers.l0 k l i) (fun x => !voucherBad x) z87 l (some false) (some (decide ((l.length : Int) ≤ 12))) 0 (fun k i hi _ => ?_) (fun k _ => ?_) k (by omega)
  · refine this.trans ?_
    unfold vouchersB
    by_cases h : l.any voucherBad = true
    · rw [if_neg, h]
      · simp
      · rw [List.all_eq_true]
        intro hq
        obtain ⟨x, hx, hb⟩ := List.any_eq_true.1 h
        have := hq x hx
        rw [hb] at this
        cases this
    · have h' : l.any voucherBad = false := by simpa using h
      rw [if_pos, h']
      · simp
      · rw [List.all_eq_true]
        intro x hx
        have := List.any_eq_false.1 h' x hx
        simp [this]
  · show spec_l06Vouchers.l0 (k + 1) l i = _
    simp only [spec_l06Vouchers.l0]
    rw [if_pos (by omega), if_pos (by omega)]
    have hx := okVoucher_iff.1 (List.all_eq_true.1 hok _ (getD_mem l z87 i hi))
    simp only [rd_T87, Int.toNat_natCast]
    generalize l.getD i z87 = x at hx
    rw [wrap_mid (i := x.f0) (by omega) (by omega), wrap_mid (i := x.f1) (by omega) (by omega), wrap_mid (i := (i : Int) + 1) (by omega) (by omega)]
    simp only [vIn_is, sDays_is, Option.bind_some, voucherBad]
    rw [show ((i : Int) + 1) = ((i + 1 : Nat) : Int) by omega]
    by_cases h1 : inB x.f0 0 1000000 = true <;> by_cases h2 : inB x.f1 0 1000 = true <;> simp [h1, h2]
  · show spec_l06Vouchers.l0 (k + 1) l _ = _
    simp only [spec_l06Vouchers.l0]
    rw [if_neg (by omega)]
/-- The code of vouchers and whether numbers are as told. -/
def vcodeB (v fine : Bool) : Int := if v = true then (if fine = true then 0 else 2) else 1
theorem sOn_is (l : List S87) (d : Int) (hok : l.all okVoucher = true) (hl : l.length ≤ 1048576) (k : Nat) (hk : l.length < k) : spec_l06On.f k l d = some (vcodeB (vouchersB l) (inB d 0 1000)) := by
  unfold spec_l06On.f vcodeB
  rw [sVouchers_is l hok hl k hk, Option.bind_some, sDays_is, Option.bind_some]
  by_cases h1 : vouchersB l = true <;> by_cases h2 : inB d 0 1000 = true <;> simp [h1, h2]
theorem iCode_is (l : List S87) (d : Int) (m : List Int) (hok : l.all okVoucher = true) : impl_voucherCode.f l d m = some (vcodeB (vouchersB l) (inB d 0 1000 && allIn m 0 1000000)) := by
  unfold impl_voucherCode.f impl_ValidVouchers.f vcodeB impl_areWithin.f impl_unless.f
  rw [if_pos hok, Option.bind_some]
  simp only [iWithin_is, Option.bind_some]
  by_cases h1 : vouchersB l = true <;> by_cases h2 : inB d 0 1000 = true <;> by_cases h3 : allIn m 0 1000000 = true <;> simp [h1, h2, h3]
/-- What vouchers are worth on a day, and no longer worth. -/
def worthStep (d : Int) (s : Int × Int) (x : S87) : Int × Int := if wrap64 x.f1 ≥ d then (wrap64 (s.1 + wrap64 x.f0), s.2) else (s.1, wrap64 (s.2 + wrap64 x.f0))
theorem sWorth_is (l : List S87) (d : Int) (hl : l.length ≤ 1048576) (k : Nat) (hk : l.length < k) : spec_l06Worth.f k l d = some (l.foldl (worthStep d) (0, 0)) := by
  unfold spec_l06Worth.f
  refine fold_from (fun k s i => spec_l06Worth.l0 k l d s.1 s.2 i) (worthStep d) z87 l (fun _ _ => True) 0 some (fun k s i hi _ => ?_) (fun _ _ _ _ => trivial) (fun k s _ _ => ?_) k (0, 0) (by omega) trivial
  · show spec_l06Worth.l0 (k + 1) l d s.1 s.2 i = _
    simp only [spec_l06Worth.l0]
    rw [if_pos (by omega), if_pos (by omega), wrap_mid (i := (i : Int) + 1) (by omega) (by omega)]
    have hrd : rd_T87 l (i : Int) = l.getD i z87 := by simp only [rd_T87, Int.toNat_natCast]
    rw [hrd]
    simp only [worthStep]
    rw [show ((i : Int) + 1) = ((i + 1 : Nat) : Int) from rfl]
    by_cases h : wrap64 (l.getD i z87).f1 ≥ d
    · rw [if_pos h, if_pos h]
    · rw [if_neg h, if_neg h]
  · show spec_l06Worth.l0 (k + 1) l d s.1 s.2 _ = _
    simp only [spec_l06Worth.l0]
    rw [if_neg (by omega)]
theorem iWorth_is (l : List S87) (d : Int) (hl : l.length ≤ 1048576) (k : Nat) (hk : l.length < k) : impl_worthAt.f k l d = some (l.foldl (worthStep d) (0, 0)) := by
  unfold impl_worthAt.f
  refine fold_from (fun k s i => impl_worthAt.l0 k d s.1 s.2 l l.length i) (worthStep d) z87 l (fun _ _ => True) 0 some (fun k s i hi _ => ?_) (fun _ _ _ _ => trivial) (fun k s _ _ => ?_) k (0, 0) (by omega) trivial
  · show impl_worthAt.l0 (k + 1) d s.1 s.2 l l.length i = _
    simp only [impl_worthAt.l0]
    rw [if_pos (by omega), if_pos (by omega), if_pos (by omega), wrap_mid (i := (i : Int) + 1) (by omega) (by omega)]
    have hrd : rd_T87 l (i : Int) = l.getD i z87 := by simp only [rd_T87, Int.toNat_natCast]
    rw [hrd]
    simp only [worthStep]
    rw [show ((i : Int) + 1) = ((i + 1 : Nat) : Int) from rfl]
    by_cases h : wrap64 (l.getD i z87).f1 ≥ d
    · rw [if_pos h, if_pos h]
    · rw [if_neg h, if_neg h]
  · show impl_worthAt.l0 (k + 1) d s.1 s.2 l l.length _ = _
    simp only [impl_worthAt.l0]
    rw [if_neg (by omega)]
end Go.Proofs.Ytennlgkacijnnaa.Q
