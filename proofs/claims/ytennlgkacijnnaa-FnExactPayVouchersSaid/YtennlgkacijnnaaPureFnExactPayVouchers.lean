/- The pure statement of FnExactPayVouchers: both sides tell the same vouchers, rest and code, for all vouchers, days and amounts. -/
import Derived.Test.YtennlgkacijnnaaPaySpec
import Derived.Test.YtennlgkacijnnaaOMarks
import Derived.Test.YtennlgkacijnnaaQ18
set_option linter.unusedVariables false
set_option linter.unusedSimpArgs false
namespace Go.Proofs.Ytennlgkacijnnaa.Q
open Go.RowKit Go.Proofs.YtennlgkacijnnaaW.PrintWords Go.Proofs.Ytennlgkacijnnaa.Loops
def payAll (l : List S87) (d a : Int) : List S87 × Int × Int :=
  if vcodeB (vouchersB l) (inB d 0 1000 && inB a 0 1000000) = 0 then ((payRes l d a).1, (payRes l d a).2, 0) else ([], 0, vcodeB (vouchersB l) (inB d 0 1000 && inB a 0 1000000))
theorem iPayVouchers_is (l : List S87) (d a : Int) (hok : l.all okVoucher = true) : impl_PayVouchers.f l d a = some (payAll l d a) := by
  unfold impl_PayVouchers.f payAll
  rw [iCode_is _ _ _ hok, Option.bind_some]
  have e : allIn [a] 0 1000000 = inB a 0 1000000 := by simp [allIn]
  rw [e]
  by_cases h : vcodeB (vouchersB l) (inB d 0 1000 && inB a 0 1000000) = 0
  · rw [if_pos h, if_pos h]
    have hb : (vouchersB l && inB a 0 1000000) = true := by
      unfold vcodeB at h
      by_cases h1 : vouchersB l = true <;> by_cases h2 : inB d 0 1000 = true <;> by_cases h3 : inB a 0 1000000 = true <;> simp [h1, h2, h3] at h ⊢
    unfold impl_pay.f
    rw [if_pos hb, Option.bind_some]
  · rw [if_neg h, if_neg h]
theorem sPayVouchers_is (l : List S87) (d a : Int) (hok : l.all okVoucher = true) (hl : l.length ≤ 1048576) (k : Nat) (hk : l.length < k) (hk2 : 195 ≤ k) : spec_PayVouchers.f k l d a = some (payAll l d a) := by
  unfold spec_PayVouchers.f payAll
  rw [sVouchers_is l hok hl k hk, Option.bind_some]
  by_cases h1 : vouchersB l = true
  · rw [if_pos h1, sDays_is, Option.bind_some]
    by_cases h2 : inB d 0 1000 = true
    · rw [if_pos h2]
      unfold spec_l06Amount.f
      rw [vIn_is, Option.bind_some]
      by_cases h3 : inB a 0 1000000 = true
      · obtain ⟨g1, g2⟩ := vouchers_in (l := l) (am := a) (by rw [h1, h3]; rfl)
        rw [Option.bind_some, if_pos h3, sPay_is l d a g2 (by omega) k (Nat.le_trans (Nat.mul_le_mul (show l.length + 1 ≤ 13 by omega) (show l.length + 3 ≤ 15 by omega)) hk2), Option.bind_some]
        simp [vcodeB, h1, h2, h3]
      · simp [vcodeB, h1, h2, h3]
    · simp [vcodeB, h1, h2]
  · simp [vcodeB, h1]
theorem payAll_short (l : List S87) (d a : Int) : (payAll l d a).1.length ≤ 12 := by
  unfold payAll
  split
  · rename_i h
    have hb : (vouchersB l && inB a 0 1000000) = true := by
      unfold vcodeB at h
      by_cases h1 : vouchersB l = true <;> by_cases h2 : inB d 0 1000 = true <;> by_cases h3 : inB a 0 1000000 = true <;> simp [h1, h2, h3] at h ⊢
    obtain ⟨g1, g2⟩ := vouchers_in hb
    have := (payRes_in l d a g2).1
    simp only at this ⊢
    omega
  · simp
theorem Pure.FnExactPayVouchers (y0 : List (S89)) (x1 : Int) (x2 : Int) (w0 : (y0.length ≤ maxLen ∧ ∀ x ∈ y0, wf89 x)) (w1 : (Lit.int .i64 x1).wf = true) (w2 : (Lit.int .i64 x2).wf = true) : ∃ k, laws_FnExactPayVouchers.f k y0 x1 x2 = some true := by
  have hok := okVoucher_all y0 w0
  by_cases h1 : (1048576 : Int) - y0.length < 0
  · refine ⟨0, ?_⟩
    unfold laws_FnExactPayVouchers.f
    rw [szVoucherS_is y0 _ w0.1 (by omega) (by omega), Option.bind_some]
    simp [h1]
  · have hl' : (y0.map cvVoucher).length ≤ 1048576 := by rw [List.length_map]; omega
    have hlm : (y0.map cvVoucher).length = y0.length := List.length_map ..
    have hlen := payAll_short (y0.map cvVoucher) x1 x2
    obtain ⟨r, am, c, hr⟩ : ∃ r am c, payAll (y0.map cvVoucher) x1 x2 = (r, am, c) := ⟨_, _, _, rfl⟩
    rw [hr] at hlen
    simp only at hlen
    have T : ∀ k, y0.length < k → laws_toVoucherS.f k y0 = some (y0.map cvVoucher) := fun k hk => toVoucherS_is y0 (by omega) k hk
    have I : impl_PayVouchers.f (y0.map cvVoucher) x1 x2 = some (r, am, c) := by rw [iPayVouchers_is _ _ _ hok, hr]
    have Sp : ∀ k, y0.length < k → 195 ≤ k → spec_PayVouchers.f k (y0.map cvVoucher) x1 x2 = some (r, am, c) := fun k h2 h3 => by rw [sPayVouchers_is _ _ _ hok hl' k (by omega) h3, hr]
    have E : ∀ k, 12 < k → laws_eqVoucherS.f k r r = some true := fun k hk => by rw [eqVoucherS_is r r (by omega) k (by omega)]; simp
    have E2 : ∀ k, y0.length < k → laws_eqVoucherS.f k (y0.map cvVoucher) (y0.map cvVoucher) = some true := fun k hk => by rw [eqVoucherS_is _ _ hl' k (by omega)]; simp
    have M := fun k (hk : y0.length < k) => markVoucherS_is (y0.map cvVoucher) hl' k (by omega) 1 (by omega) (by omega)
    have M2 := fun k (hk : 12 < k) => markVoucherS_is r (by omega) k (by omega) 1 (by omega) (by omega)
    have H := fun k (hk : 12 < k) => heldVoucherS_is r.length (by omega) k (by omega) 1 (by omega) (by omega)
    refine ⟨y0.length + 200, ?_⟩
    unfold laws_FnExactPayVouchers.f
    rw [szVoucherS_is y0 _ w0.1 (by omega) (by omega), Option.bind_some, if_neg h1, if_neg h1]
    rw [T _ (by omega)]
    simp only [Option.bind_some]
    rw [Sp _ (by omega) (by omega)]
    simp only [Option.bind_some, I]
    rw [E _ (by omega)]
    simp only [Option.bind_some, bne_self_eq_false, if_true]
    rw [laws_FnExactPayVouchers.j0, if_neg (by simp), T _ (by omega)]
    simp only [Option.bind_some]
    rw [E2 _ (by omega)]
    simp only [Option.bind_some, if_true]
    rw [M _ (by omega)]
    simp only [Option.bind_some]
    rw [if_neg (by omega), E _ (by omega)]
    simp only [Option.bind_some, if_true, bne_self_eq_false]
    rw [laws_FnExactPayVouchers.j1, if_neg (by simp), M2 _ (by omega)]
    simp only [Option.bind_some]
    rw [H _ (by omega)]
    simp only [Option.bind_some, if_true]
    rw [if_neg (by omega), T _ (by omega)]
    simp only [Option.bind_some, I]
    rw [E _ (by omega)]
    simp only [Option.bind_some, if_true, bne_self_eq_false]
    rw [laws_FnExactPayVouchers.j2, if_neg (by simp), H _ (by omega)]
    simp only [Option.bind_some, if_true]
    rw [if_neg (by omega)]
end Go.Proofs.Ytennlgkacijnnaa.Q
