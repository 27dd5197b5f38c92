/- impl's ValidVouchers, for vouchers whose fields lie in their kinds. -/
import Derived.Test.YtcekifhkbdjpdaaDoorOBase
import Derived.Test.YtcekifhkbdjpdaaDoorIdxVoucher
set_option linter.unusedVariables false
set_option linter.unusedSimpArgs false
namespace Go.Proofs.YtcekifhkbdjpdaaDoor.Q
open Go.RowKit Go.Proofs.YtcekifhkbdjpdaaDoorW.PrintWords Go.Proofs.YtcekifhkbdjpdaaDoorW.PrintLast Go.Proofs.YtcekifhkbdjpdaaDoorW.PrintMore
def okVoucher (x : S51) : Bool := decide (-2147483648 ≤ x.f0 ∧ x.f0 ≤ 2147483647 ∧ -32768 ≤ x.f1 ∧ x.f1 ≤ 32767)
theorem okVoucher_iff {x : S51} : okVoucher x = true ↔ -2147483648 ≤ x.f0 ∧ x.f0 ≤ 2147483647 ∧ -32768 ≤ x.f1 ∧ x.f1 ≤ 32767 := by simp [okVoucher]
def voucherBad (x : S51) : Bool := !inB x.f0 0 1000000 || !inB x.f1 0 1000
def vouchersB (l : List S51) : Bool := decide ((l.length : Int) ≤ 12) && !l.any voucherBad
set_option maxHeartbeats 1000000 in
theorem voucher_pred (l : List S51) (w : World) (hl : ∀ x ∈ l, okVoucher x = true) : PredVoucher 56 #[] voucherBad l w := by
  intro W x hx hb
  obtain ⟨a0, a1, b0, b1⟩ := okVoucher_iff.1 (hl x hx)
  clear hl hx hb
  obtain ⟨a, b⟩ := x
  simp only at a0 a1 b0 b1 ⊢
  simp only [List.append_toArray, List.cons_append, List.nil_append, List.append_nil]
  have E : Aside0 (voucherBad ⟨a, b⟩ = (!inB a 0 1000000 || !inB b 0 1000)) := ⟨rfl⟩
  go_enter Tryd.func56, Tryd.ntmps56
  go_wp2_with fail
  cases h1 : inB a 0 1000000 with
  | false =>
    refine (within_is _ _ _ _ h1 _).mono ?_
    rintro e w' ⟨rfl, rfl⟩
    have H1 := Aside0.mk h1
    clear h1
    go_wp2
    go_ret
    exact ⟨by rw [E.out, H1.out]; rfl, (Below.refl _ _).alloc (Nat.le_refl _) _⟩
  | true =>
    refine (within_is _ _ _ _ h1 _).mono ?_
    rintro e w' ⟨rfl, rfl⟩
    have H1 := Aside0.mk h1
    clear h1
    go_wp2_with fail
    refine (within_is _ _ _ _ rfl _).mono ?_
    rintro e w' ⟨rfl, rfl⟩
    generalize inB b 0 1000 = y at *
    go_wp2
    go_ret
    exact ⟨by rw [E.out, H1.out]; rfl, (Below.refl _ _).alloc (Nat.le_refl _) _⟩
theorem ValidVouchers_any (A : Option Addr) (c : Nat) (l : List S51) (w : World) (hr : Kd.C k51 w A l.length l) (hc : l.length ≤ c) (hl : ∀ x ∈ l, okVoucher x = true) :
    Calls Tryd.prog 28 #[.slice A l.length c] w fun e w' => e = .returned (.bool (vouchersB l)) ∧ Below w.heap.size w w' := by
  have HR := Aside0.mk hr
  have HL := Aside0.mk hl
  have E : Aside0 (vouchersB l = (decide ((l.length : Int) ≤ 12) && !l.any voucherBad)) := ⟨rfl⟩
  clear hr hl
  cases h1 : decide ((l.length : Int) ≤ 12) with
  | false =>
    go_enter Tryd.func28, Tryd.ntmps28
    go_wp2
    go_ret
    exact ⟨by rw [E.out, h1]; rfl, Below.refl _ _⟩
  | true =>
    have eg := enters_of Tryd.func56 (by kernel_rfl) rfl
    go_enter Tryd.func28, Tryd.ntmps28
    go_wp2_with fail
    refine (containsFunc_Voucher 56 _ eg voucherBad A c l _ HR.out hc (voucher_pred l _ HL.out)).mono ?_
    rintro e w1 ⟨rfl, hb⟩
    have HB := Aside0.mk hb
    clear hb
    generalize hy : l.any voucherBad = y at *
    go_wp2
    go_ret
    exact ⟨by rw [E.out, h1]; rfl, HB.out⟩
def impl_ValidVouchers.f (l0 : List (S51)) : Option (Bool) := if l0.all okVoucher = true then some (vouchersB l0) else none
theorem impl_ValidVouchers.calls (A0 : Option Addr) (c0 : Nat) (l0 : List (S51)) (r : Bool) (w : World) (hr0 : Kd.C k51 w A0 l0.length l0) (hc0 : l0.length ≤ c0) (h : impl_ValidVouchers.f l0 = some r) :
    Calls Tryd.prog 28 #[.slice A0 l0.length c0] w fun e w' => e = .returned (.bool r) ∧ Below w.heap.size w w' := by
  unfold impl_ValidVouchers.f at h
  split at h
  · rename_i hh
    injection h with h
    subst h
    exact ValidVouchers_any A0 c0 l0 w hr0 hc0 (List.all_eq_true.1 hh)
  · cases h
end Go.Proofs.YtcekifhkbdjpdaaDoor.Q
