/- The pure statement of FnExactFirstDayShort: both sides tell the same day and code, for all vouchers and amounts. -/
import Derived.Test.YtennlgkacijnnaaPaySpec
import Derived.Test.YtennlgkacijnnaaOMarks
import Derived.Test.YtennlgkacijnnaaQ20
set_option linter.unusedVariables false
set_option linter.unusedSimpArgs false
namespace Go.Proofs.Ytennlgkacijnnaa.Q
open Go.RowKit Go.Proofs.YtennlgkacijnnaaW.PrintWords Go.Proofs.Ytennlgkacijnnaa.Loops
/-- The first day, from day i on, on which the vouchers run short. -/
def shortFrom : List Int → Int → List S87 → Int × Int
  | [], _, _ => (0, 6)
  | a :: r, i, l => if (payRes l i a).2 > 0 then (i, 0) else shortFrom r (i + 1) (payRes l i a).1
def shortRes (l : List S87) (ds : List Int) : Int × Int :=
  if vouchersB l = true then (if (ds.length : Int) > 1000 then (0, 3) else if allIn ds 0 1000000 = true then shortFrom ds 0 l else (0, 2)) else (0, 1)
theorem vouchersB_of (l : List S87) (am : Int) (h12 : l.length ≤ 12) (h : inPay l.length (l, am)) : vouchersB l = true := by
  unfold vouchersB
  rw [Bool.and_eq_true]
  refine ⟨decide_eq_true (by omega), ?_⟩
  rw [Bool.not_eq_true', List.any_eq_false]
  intro x hx
  have h2 := h.2.2.2 x hx
  have h3 : inB x.f0 0 1000000 = true := inB_true.2 (by omega)
  have h4 : inB x.f1 0 1000 = true := inB_true.2 (by omega)
  simp [voucherBad, h3, h4]
theorem iShort_from (ds : List Int) (hl : ds.length ≤ 1048576) (hd : ∀ a ∈ ds, 0 ≤ a ∧ a ≤ 1000000) : ∀ (m k i : Nat) (l : List S87), ds.length - i = m → i ≤ ds.length → m < k → l.length ≤ 12 → vouchersB l = true → impl_FirstDayShort.l0 k l ds ds.length i = some (shortFrom (ds.drop i) i l) := by
  intro m
  induction m with
  | zero =>
    intro k i l hm hi hk h12 hv
    obtain ⟨k, rfl⟩ : ∃ n, k = n + 1 := ⟨k - 1, by omega⟩
    rw [impl_FirstDayShort.l0, if_neg (by omega), List.drop_of_length_le (by omega)]
    rfl
  | succ m ih =>
    intro k i l hm hi hk h12 hv
    obtain ⟨k, rfl⟩ : ∃ n, k = n + 1 := ⟨k - 1, by omega⟩
    have hi' : i < ds.length := by omega
    have hrd : rd ds (i : Int) = ds.getD i 0 := by unfold rd; rw [Int.toNat_natCast]
    have ha := hd _ (getD_mem ds 0 i hi')
    have hb : (vouchersB l && inB (ds.getD i 0) 0 1000000) = true := by rw [hv, Bool.true_and]; exact inB_true.2 ha
    obtain ⟨g1, g2⟩ := vouchers_in hb
    have hin := payRes_in l i _ g2
    have hlen := hin.1
    rw [impl_FirstDayShort.l0, if_pos (by omega), if_pos (by omega), if_pos (by omega), hrd, impl_pay.f, if_pos hb, Option.bind_some, drop_at ds 0 i hi', shortFrom]
    by_cases hs : (payRes l i (ds.getD i 0)).2 > 0
    · rw [if_pos hs, if_pos hs]
    · rw [if_neg hs, if_neg hs, wrap_mid (by omega) (by omega), show ((i : Int) + 1) = ((i + 1 : Nat) : Int) by omega]
      refine ih k (i + 1) _ (by omega) (by omega) (by omega) (by omega) (vouchersB_of _ (payRes l i (ds.getD i 0)).2 (by omega) ?_)
      rw [hlen]
      exact hin
theorem sShort_from (ds : List Int) (hl : ds.length ≤ 1048576) (hd : ∀ a ∈ ds, 0 ≤ a ∧ a ≤ 1000000) : ∀ (m k i : Nat) (l : List S87), ds.length - i = m → i ≤ ds.length → m + 195 < k → l.length ≤ 12 → vouchersB l = true → spec_FirstDayShort.l1 k ds l i = some (shortFrom (ds.drop i) i l) := by
  intro m
  induction m with
  | zero =>
    intro k i l hm hi hk h12 hv
    obtain ⟨k, rfl⟩ : ∃ n, k = n + 1 := ⟨k - 1, by omega⟩
    rw [spec_FirstDayShort.l1, if_neg (by omega), List.drop_of_length_le (by omega)]
    rfl
  | succ m ih =>
    intro k i l hm hi hk h12 hv
    obtain ⟨k, rfl⟩ : ∃ n, k = n + 1 := ⟨k - 1, by omega⟩
    have hi' : i < ds.length := by omega
    have hrd : rd ds (i : Int) = ds.getD i 0 := by unfold rd; rw [Int.toNat_natCast]
    have ha := hd _ (getD_mem ds 0 i hi')
    have hb : (vouchersB l && inB (ds.getD i 0) 0 1000000) = true := by rw [hv, Bool.true_and]; exact inB_true.2 ha
    obtain ⟨g1, g2⟩ := vouchers_in hb
    have hin := payRes_in l i _ g2
    have hlen := hin.1
    rw [spec_FirstDayShort.l1, if_pos (by omega), if_pos (by omega), hrd, sPay_is l i _ g2 (by omega) k (Nat.le_trans (Nat.mul_le_mul (show l.length + 1 ≤ 13 by omega) (show l.length + 3 ≤ 15 by omega)) (by omega)), Option.bind_some, drop_at ds 0 i hi', shortFrom]
    by_cases hs : (payRes l i (ds.getD i 0)).2 > 0
    · rw [if_pos hs, if_pos hs]
    · rw [if_neg hs, if_neg hs, wrap_mid (by omega) (by omega), show ((i : Int) + 1) = ((i + 1 : Nat) : Int) by omega]
      refine ih k (i + 1) _ (by omega) (by omega) (by omega) (by omega) (vouchersB_of _ (payRes l i (ds.getD i 0)).2 (by omega) ?_)
      rw [hlen]
      exact hin
theorem allIn_mem {m : List Int} {lo hi : Int} (h : allIn m lo hi = true) : ∀ a ∈ m, lo ≤ a ∧ a ≤ hi := by
  intro a ha
  unfold allIn at h
  have := List.all_eq_true.1 h a ha
  exact inB_true.1 this
theorem iShort_is (l : List S87) (ds : List Int) (hok : l.all okVoucher = true) (k : Nat) (hk : ds.length < k) (hl : ds.length ≤ 1048576) : impl_FirstDayShort.f k l ds = some (shortRes l ds) := by
  unfold impl_FirstDayShort.f impl_ValidVouchers.f shortRes
  rw [if_pos hok, Option.bind_some]
  by_cases h1 : vouchersB l = true
  · rw [if_pos h1, if_pos h1]
    by_cases h2 : (ds.length : Int) > 1000
    · rw [if_pos h2, if_pos h2]
    · rw [if_neg h2, if_neg h2]
      unfold impl_areWithin.f
      rw [Option.bind_some]
      by_cases h3 : allIn ds 0 1000000 = true
      · rw [if_pos h3, if_pos h3]
        have := (vouchers_in (l := l) (am := 0) (by rw [h1]; rfl)).1
        have h4 := iShort_from ds hl (allIn_mem h3) ds.length k 0 l (by omega) (by omega) hk this h1
        rw [List.drop_zero] at h4
        exact h4
      · rw [if_neg h3, if_neg h3]
  · rw [if_neg h1, if_neg h1]
theorem sShort_is (l : List S87) (ds : List Int) (hok : l.all okVoucher = true) (k : Nat) (hk : ds.length + 1200 < k) (hk2 : l.length < k) (hl2 : l.length ≤ 1048576) (hl : ds.length ≤ 1048576) : spec_FirstDayShort.f k l ds = some (shortRes l ds) := by
  unfold spec_FirstDayShort.f shortRes
  rw [sVouchers_is l hok hl2 k hk2, Option.bind_some]
  by_cases h1 : vouchersB l = true
  · rw [if_pos h1, if_pos h1]
    by_cases h2 : (ds.length : Int) > 1000
    · rw [if_pos h2, if_pos h2]
    · rw [if_neg h2, if_neg h2]
      have h12 := (vouchers_in (l := l) (am := 0) (by rw [h1]; rfl)).1
      have step : ∀ k i : Nat, i < ds.length → spec_FirstDayShort.l0 (k + 1) l ds (i : Int) = if inB (ds.getD i 0) 0 1000000 = true then spec_FirstDayShort.l0 k l ds ((i + 1 : Nat) : Int) else some (0, 2) := fun k i hi => by
        have hrd : rd ds (i : Int) = ds.getD i 0 := by unfold rd; rw [Int.toNat_natCast]
        rw [spec_FirstDayShort.l0, if_pos (by omega), if_pos (by omega), hrd, wrap_mid (i := (i : Int) + 1) (by omega) (by omega), show ((i : Int) + 1) = ((i + 1 : Nat) : Int) by omega]
        unfold spec_l06Amount.f
        rw [vIn_is]
        rfl
      by_cases h3 : allIn ds 0 1000000 = true
      · rw [if_pos h3]
        obtain ⟨k, rfl⟩ : ∃ n, k = (n + 1) + ds.length := ⟨k - 1 - ds.length, by omega⟩
        have h4 := pass_from (fun k i => spec_FirstDayShort.l0 k l ds i) (fun n => inB n 0 1000000) 0 ds (some (0, 2)) step h3 (k + 1)
        refine h4.trans ?_
        show spec_FirstDayShort.l0 (k + 1) l ds (ds.length : Int) = _
        rw [spec_FirstDayShort.l0, if_neg (by omega), Option.bind_some, if_pos (by simp; omega), List.nil_append]
        have h5 := sShort_from ds hl (allIn_mem h3) ds.length k 0 l (by omega) (by omega) (by omega) h12 h1
        rw [List.drop_zero] at h5
        exact h5
      · rw [if_neg h3]
        exact stop_from (fun k i => spec_FirstDayShort.l0 k l ds i) (fun n => inB n 0 1000000) 0 ds (some (0, 2)) step k (by omega) (by simpa [allIn] using h3)
  · rw [if_neg h1, if_neg h1]
theorem Pure.FnExactFirstDayShort (y0 : List (S89)) (y1 : List Int) (w0 : (y0.length ≤ maxLen ∧ ∀ x ∈ y0, wf89 x)) (w1 : (y1.length ≤ maxLen ∧ ∀ x ∈ y1, (Lit.int .i64 x).wf = true)) : ∃ k, laws_FnExactFirstDayShort.f k y0 y1 = some true := by
  have hok := okVoucher_all y0 w0
  by_cases h0 : (y1.length : Int) > 1048576
  · refine ⟨0, ?_⟩
    unfold laws_FnExactFirstDayShort.f
    rw [if_pos h0]
  by_cases h1 : (1048576 : Int) - y0.length < 0
  · refine ⟨0, ?_⟩
    unfold laws_FnExactFirstDayShort.f
    rw [if_neg h0, szVoucherS_is y0 _ w0.1 (by omega) (by omega), Option.bind_some]
    simp [h1]
  · have hl' : (y0.map cvVoucher).length ≤ 1048576 := by rw [List.length_map]; omega
    have hlm : (y0.map cvVoucher).length = y0.length := List.length_map ..
    have hl1 : y1.length ≤ 1048576 := by omega
    obtain ⟨r, c, hr⟩ : ∃ r c, shortRes (y0.map cvVoucher) y1 = (r, c) := ⟨_, _, rfl⟩
    have T : ∀ k, y0.length < k → laws_toVoucherS.f k y0 = some (y0.map cvVoucher) := fun k hk => toVoucherS_is y0 (by omega) k hk
    have T2 : ∀ k, y1.length < k → laws_toInt64S.f k y1 = some y1 := fun k hk => toInt64S_is y1 hl1 k hk
    have I : ∀ k, y1.length < k → impl_FirstDayShort.f k (y0.map cvVoucher) y1 = some (r, c) := fun k hk => by rw [iShort_is _ _ hok k hk hl1, hr]
    have Sp : ∀ k, y1.length + 1200 < k → y0.length < k → spec_FirstDayShort.f k (y0.map cvVoucher) y1 = some (r, c) := fun k h2 h3 => by rw [sShort_is _ _ hok k h2 (by omega) hl' hl1, hr]
    have E2 : ∀ k, y0.length < k → laws_eqVoucherS.f k (y0.map cvVoucher) (y0.map cvVoucher) = some true := fun k hk => by rw [eqVoucherS_is _ _ hl' k (by omega)]; simp
    have E3 : ∀ k, y1.length < k → laws_eqInt64S.f k y1 y1 = some true := fun k hk => by rw [eqInt64S_is _ _ hl1 k hk]; simp
    refine ⟨y0.length + y1.length + 1210, ?_⟩
    unfold laws_FnExactFirstDayShort.f
    rw [if_neg h0, szVoucherS_is y0 _ w0.1 (by omega) (by omega), Option.bind_some, if_neg h1, if_neg h1]
    rw [T _ (by omega)]
    simp only [Option.bind_some]
    rw [T2 _ (by omega)]
    simp only [Option.bind_some]
    rw [Sp _ (by omega) (by omega)]
    simp only [Option.bind_some]
    rw [I _ (by omega)]
    simp only [Option.bind_some, bne_self_eq_false, if_true]
    rw [laws_FnExactFirstDayShort.j0, if_neg (by simp), T _ (by omega)]
    simp only [Option.bind_some]
    rw [E2 _ (by omega)]
    simp only [Option.bind_some, if_true]
    rw [T2 _ (by omega)]
    simp only [Option.bind_some]
    rw [E3 _ (by omega)]
    simp only [Option.bind_some, if_true]
end Go.Proofs.Ytennlgkacijnnaa.Q
