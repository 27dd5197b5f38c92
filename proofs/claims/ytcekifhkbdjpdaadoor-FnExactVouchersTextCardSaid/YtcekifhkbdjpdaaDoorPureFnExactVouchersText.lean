/- The pure statement of FnExactVouchersText: both sides give the same text. -/
import Derived.Test.YtcekifhkbdjpdaaDoorSpec6V
import Derived.Test.YtcekifhkbdjpdaaDoorText
import Derived.Test.YtcekifhkbdjpdaaDoorQ4
set_option linter.unusedVariables false
set_option linter.unusedSimpArgs false
namespace Go.Proofs.YtcekifhkbdjpdaaDoor.Q
open Go.RowKit Go.Proofs.YtcekifhkbdjpdaaDoorW.PrintWords Go.Proofs.YtcekifhkbdjpdaaDoor.Loops
/-- A voucher's words. -/
def vt (x : S51) : List UInt8 := Lib.itoa x.f0 ++ [64] ++ Lib.itoa x.f1
theorem voucher_in (l : List S51) (h : vouchersB l = true) : l.length ≤ 12 ∧ ∀ x ∈ l, 0 ≤ x.f0 ∧ x.f0 ≤ 1000000 ∧ 0 ≤ x.f1 ∧ x.f1 ≤ 1000 := by
  unfold vouchersB at h
  rw [Bool.and_eq_true] at h
  obtain ⟨h1, h2⟩ := h
  refine ⟨by have := of_decide_eq_true h1; omega, fun x hx => ?_⟩
  have h3 : l.any voucherBad = false := by simpa using h2
  have := List.any_eq_false.1 h3 x hx
  unfold voucherBad at this
  have h4 : inB x.f0 0 1000000 = true ∧ inB x.f1 0 1000 = true := by
    cases ha : inB x.f0 0 1000000 <;> cases hb : inB x.f1 0 1000 <;> simp [ha, hb] at this ⊢
  have ha := inB_true.1 h4.1
  have hb := inB_true.1 h4.2
  omega
theorem vt_length (x : S51) (h0 : 0 ≤ x.f0) (h1 : x.f0 ≤ 1000000) (h2 : 0 ≤ x.f1) (h3 : x.f1 ≤ 1000) : (vt x).length ≤ 43 := by
  unfold vt
  have := itoa_small x.f0 h0 h1
  have := itoa_small x.f1 h2 (by omega)
  simp only [List.length_append, List.length_cons, List.length_nil]
  omega
theorem tail_length (l : List S51) (h : ∀ x ∈ l, (vt x).length ≤ 43) : (Lib.joinTail [32] (l.map vt)).length ≤ 44 * l.length := by
  induction l with
  | nil => simp [Lib.joinTail]
  | cons x l ih =>
    have := ih (fun y hy => h y (List.mem_cons_of_mem _ hy))
    have := h x List.mem_cons_self
    simp only [Lib.joinTail, List.map_cons, List.flatten_cons, List.length_append, List.length_cons, List.length_nil] at *
    omega
theorem sText_step (l : List S51) (hl : l.length ≤ 12) (h : ∀ x ∈ l, 0 ≤ x.f0 ∧ x.f0 ≤ 1000000 ∧ 0 ≤ x.f1 ∧ x.f1 ≤ 1000) (k i : Nat) (hi : i < l.length) (hk : 10 < k) (s : List UInt8) (hs : s.length ≤ 100 * i) :
    spec_l06Text.l0 (k + 1) l (bs s) (i : Int) = spec_l06Text.l0 k l (bs (s ++ ((if i = 0 then [] else [32]) ++ vt (l.getD i z51)))) ((i + 1 : Nat) : Int) := by
  have hx := h _ (getD_mem l z51 i hi)
  obtain ⟨a0, a1, b0, b1⟩ := hx
  have e0 := dec_is _ a0 a1 k hk
  have e1 := dec_is _ b0 (by omega) k hk
  have l0 := itoa_small _ a0 a1
  have l1 := itoa_small _ b0 (by omega)
  simp only [spec_l06Text.l0]
  rw [if_pos (by omega)]
  simp only [rd_T51, Int.toNat_natCast]
  unfold vt
  generalize l.getD i z51 = x at a0 a1 b0 b1 e0 e1 l0 l1 ⊢
  rw [wrap_mid (i := x.f0) (by omega) (by omega), wrap_mid (i := x.f1) (by omega) (by omega), wrap_mid (i := (i : Int) + 1) (by omega) (by omega), e0, e1, show ((i : Int) + 1) = ((i + 1 : Nat) : Int) by omega]
  simp only [Option.bind_some]
  rw [show (⟨#[64]⟩ : ByteArray) = bs [64] from rfl, show (⟨#[32]⟩ : ByteArray) = bs [32] from rfl]
  generalize hA : Lib.itoa x.f0 = A at *
  generalize hB : Lib.itoa x.f1 = B at *
  simp only [bs_add, bs_size, List.length_append, List.length_cons, List.length_nil]
  by_cases hz : i = 0
  · subst hz
    rw [if_neg (by omega), if_pos (by omega), if_pos (by omega), if_pos (by omega), if_pos (by omega), if_pos rfl, List.nil_append]
  · rw [if_pos (by omega), if_pos (by omega), if_pos (by omega), if_pos (by omega), if_pos (by omega), if_pos (by omega), if_neg hz, List.append_assoc]
theorem sText_rest (l : List S51) (hl : l.length ≤ 12) (h : ∀ x ∈ l, 0 ≤ x.f0 ∧ x.f0 ≤ 1000000 ∧ 0 ≤ x.f1 ∧ x.f1 ≤ 1000) : ∀ (d i : Nat), 0 < i → l.length - i = d → i ≤ l.length → ∀ (k : Nat) (s : List UInt8), d + 11 < k → s.length ≤ 100 * i →
    spec_l06Text.l0 k l (bs s) (i : Int) = some (bs (s ++ Lib.joinTail [32] ((l.drop i).map vt))) := by
  intro d
  induction d with
  | zero =>
    intro i h0 hd hi k s hk hs
    obtain ⟨k, rfl⟩ : ∃ m, k = m + 1 := ⟨k - 1, by omega⟩
    have e : i = l.length := by omega
    subst e
    simp only [spec_l06Text.l0]
    rw [if_neg (by omega), List.drop_length]
    simp [Lib.joinTail]
  | succ d ih =>
    intro i h0 hd hi k s hk hs
    obtain ⟨k, rfl⟩ : ∃ m, k = m + 1 := ⟨k - 1, by omega⟩
    have hx := h _ (getD_mem l z51 i (by omega))
    have hv := vt_length _ hx.1 hx.2.1 hx.2.2.1 hx.2.2.2
    rw [sText_step l hl h k i (by omega) (by omega) s hs, if_neg (by omega), ih (i + 1) (by omega) (by omega) (by omega) k _ (by omega) (by simp only [List.length_append, List.length_cons, List.length_nil]; omega), drop_at l z51 i (by omega)]
    simp [Lib.joinTail]
theorem sText_is (l : List S51) (hl : l.length ≤ 12) (h : ∀ x ∈ l, 0 ≤ x.f0 ∧ x.f0 ≤ 1000000 ∧ 0 ≤ x.f1 ∧ x.f1 ≤ 1000) (k : Nat) (hk : 30 < k) :
    spec_l06Text.f k l = some (bs (Lib.join (l.map vt) [32])) := by
  unfold spec_l06Text.f
  obtain ⟨k, rfl⟩ : ∃ m, k = m + 1 := ⟨k - 1, by omega⟩
  match l, hl, h with
  | [], hl, h =>
    simp only [spec_l06Text.l0]
    rw [if_neg (by simp)]
    rfl
  | x :: l, hl, h =>
    have hx := h x List.mem_cons_self
    have hv := vt_length _ hx.1 hx.2.1 hx.2.2.1 hx.2.2.2
    simp only [List.length_cons] at hl
    have := sText_step (x :: l) (by simp only [List.length_cons]; omega) h k 0 (by simp) (by omega) [] (by simp)
    rw [show (⟨#[]⟩ : ByteArray) = bs [] from rfl, show (0 : Int) = ((0 : Nat) : Int) from rfl, this]
    simp only [if_true, List.nil_append, List.getD_cons_zero]
    rw [sText_rest (x :: l) (by simp only [List.length_cons]; omega) h l.length 1 (by omega) (by simp) (by simp) k _ (by omega) (by omega), List.map_cons, Lib.join_cons]
    rfl
theorem iText_is (l : List S51) (hl : l.length ≤ 12) (h : ∀ x ∈ l, 0 ≤ x.f0 ∧ x.f0 ≤ 1000000 ∧ 0 ≤ x.f1 ∧ x.f1 ≤ 1000) : ∀ (d i : Nat), l.length - i = d → i ≤ l.length → ∀ k : Nat, d < k →
    impl_VouchersText.l0 k ((l.take i).map fun x => bs (vt x)) l (l.length : Int) (i : Int) = some (bs (Lib.join (l.map vt) [32])) := by
  intro d
  induction d with
  | zero =>
    intro i hd hi k hk
    obtain ⟨k, rfl⟩ : ∃ m, k = m + 1 := ⟨k - 1, by omega⟩
    have e : i = l.length := by omega
    subst e
    simp only [impl_VouchersText.l0]
    have ej : (l.map fun x => bs (vt x)).map (·.data.toList) = l.map vt := by
      rw [List.map_map]
      refine List.map_congr_left fun x _ => bs_bytes _
    have hb : (Lib.join (l.map vt) [32]).length ≤ 10000 := by
      match l, hl, h with
      | [], _, _ => simp [Lib.join, List.intercalate]
      | x :: l, hl, h =>
        have hx := h x List.mem_cons_self
        have hv := vt_length _ hx.1 hx.2.1 hx.2.2.1 hx.2.2.2
        have := tail_length l (fun y hy => by
          have hy := h y (List.mem_cons_of_mem _ hy)
          exact vt_length _ hy.1 hy.2.1 hy.2.2.1 hy.2.2.2)
        rw [List.map_cons, Lib.join_cons, List.length_append]
        simp only [List.length_cons] at hl
        omega
    rw [if_neg (by omega), List.take_length]
    unfold strings_Join.f joinB
    rw [ej, show (⟨#[32]⟩ : ByteArray).data.toList = [32] from rfl, if_pos ⟨by rw [List.length_map]; omega, by omega⟩]
    rfl
  | succ d ih =>
    intro i hd hi k hk
    obtain ⟨k, rfl⟩ : ∃ m, k = m + 1 := ⟨k - 1, by omega⟩
    have := ih (i + 1) (by omega) (by omega) k (by omega)
    rw [← this]
    have hx := h _ (getD_mem l z51 i (by omega))
    obtain ⟨a0, a1, b0, b1⟩ := hx
    have e0 := decimal_is _ a0 a1
    have e1 := decimal_is _ b0 (by omega)
    have l0 := itoa_small _ a0 a1
    have l1 := itoa_small _ b0 (by omega)
    have et : (l.take (i + 1)).map (fun x => bs (vt x)) = (l.take i).map (fun x => bs (vt x)) ++ [bs (vt (l.getD i z51))] := by
      rw [List.take_add_one, List.getElem?_eq_getElem (by omega), getD_at l z51 i (by omega), List.map_append]
      rfl
    rw [et]
    simp only [impl_VouchersText.l0]
    rw [if_pos (by omega), if_pos (by omega), if_pos (by omega)]
    simp only [rd_T51, Int.toNat_natCast]
    unfold vt
    generalize l.getD i z51 = x at a0 a1 b0 b1 e0 e1 l0 l1 ⊢
    rw [wrap_mid (i := x.f0) (by omega) (by omega), wrap_mid (i := x.f1) (by omega) (by omega), wrap_mid (i := (i : Int) + 1) (by omega) (by omega), e0, e1, show ((i : Int) + 1) = ((i + 1 : Nat) : Int) by omega]
    simp only [Option.bind_some]
    rw [show (⟨#[64]⟩ : ByteArray) = bs [64] from rfl]
    generalize Lib.itoa x.f0 = A at *
    generalize Lib.itoa x.f1 = B at *
    simp only [bs_add, bs_size, List.length_append, List.length_cons, List.length_nil, List.length_map, List.length_take]
    rw [if_pos (by omega), if_pos (by omega), if_pos (by omega)]
theorem Pure.FnExactVouchersText (y0 : List (S53)) (w0 : (y0.length ≤ maxLen ∧ ∀ x ∈ y0, wf53 x)) : ∃ k, laws_FnExactVouchersText.f k y0 = some true := by
  have hok := okVoucher_all y0 w0
  by_cases h1 : (1048576 : Int) - y0.length < 0
  · refine ⟨0, ?_⟩
    unfold laws_FnExactVouchersText.f
    rw [szVoucherS_is y0 _ w0.1 (by omega) (by omega), Option.bind_some]
    simp [h1]
  · have hl' : (y0.map cvVoucher).length ≤ 1048576 := by rw [List.length_map]; omega
    have hlm : (y0.map cvVoucher).length = y0.length := List.length_map ..
    have hs : ∃ r, spec_VouchersText.f (y0.length + 40) (y0.map cvVoucher) = some r ∧ impl_VouchersText.f (y0.length + 40) (y0.map cvVoucher) = some r := by
      unfold spec_VouchersText.f impl_VouchersText.f impl_ValidVouchers.f
      rw [sVouchers_is _ hok hl' _ (by omega), if_pos hok, Option.bind_some, Option.bind_some]
      by_cases hv : vouchersB (y0.map cvVoucher) = true
      · obtain ⟨h12, hin⟩ := voucher_in _ hv
        refine ⟨bs (Lib.join ((y0.map cvVoucher).map vt) [32]), ?_, ?_⟩
        · rw [if_pos hv, sText_is _ h12 hin _ (by omega), Option.bind_some]
        · rw [if_pos hv]
          have := iText_is _ h12 hin (y0.map cvVoucher).length 0 (by omega) (by omega) (y0.length + 40) (by omega)
          simpa using this
      · rw [if_neg hv, if_neg hv]
        exact ⟨_, rfl, rfl⟩
    obtain ⟨r, hr, hi⟩ := hs
    refine ⟨y0.length + 40, ?_⟩
    unfold laws_FnExactVouchersText.f
    rw [szVoucherS_is y0 _ w0.1 (by omega) (by omega), Option.bind_some, if_neg h1, if_neg h1, toVoucherS_is y0 (by omega) _ (by omega), Option.bind_some, hr, Option.bind_some, Option.bind_some, hi, Option.bind_some, if_pos rfl, Option.bind_some, eqVoucherS_is _ _ hl' _ (by omega)]
    simp
end Go.Proofs.YtcekifhkbdjpdaaDoor.Q
