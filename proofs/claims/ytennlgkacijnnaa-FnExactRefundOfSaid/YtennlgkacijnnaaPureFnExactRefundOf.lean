/- The pure statement of FnExactRefundOf: both sides tell the same sum and code, for all orders, returns and matches. -/
import Derived.Test.YtennlgkacijnnaaSpec6O
import Derived.Test.YtennlgkacijnnaaHelp6M
import Derived.Test.YtennlgkacijnnaaQ16
set_option linter.unusedVariables false
set_option linter.unusedSimpArgs false
namespace Go.Proofs.Ytennlgkacijnnaa.Q
open Go.RowKit Go.Proofs.YtennlgkacijnnaaW.PrintWords Go.Proofs.YtennlgkacijnnaaW.PrintMore Go.Proofs.Ytennlgkacijnnaa.Loops
theorem refStep_bd (l : List S75) (hok : ∀ x ∈ l, okOrder x = true) (s : Int) (x : S102) (i : Nat) (hx : okMatch x = true) (hb : x.f1.toNat < l.length) (h0 : -(1073741824 * (i : Int)) ≤ s) (h1 : s ≤ 1073741824 * (i : Int)) : -(1073741824 * ((i + 1 : Nat) : Int)) ≤ refStep l s x ∧ refStep l s x ≤ 1073741824 * ((i + 1 : Nat) : Int) := by
  have h2 := okMatch_iff.1 hx
  have h3 := price_bd hok _ hb
  have h4 := mul_bd (a := x.f2) (b := (l.getD x.f1.toNat z75).f3) (by omega) (by omega) (by omega) (by omega)
  unfold refStep
  omega
theorem sRef1 (l : List S75) (ms : List S102) (n2 : Nat) (hok : l.all okOrder = true) (hl : l.length ≤ 1048576) (hms : ms.all okMatch = true) (hm : ms.length ≤ 1048576) (hn : ms.any (refBad l.length n2) = false) (k : Nat) (hk : ms.length < k) : spec_RefundOf.l1 k l ms 0 0 = some (ms.foldl (refStep l) 0, 0) := by
  have hgood : ∀ i, i < ms.length → 0 ≤ (ms.getD i z102).f1 ∧ (ms.getD i z102).f1 < (l.length : Int) := fun i hi => by
    have := List.any_eq_false.1 hn _ (getD_mem ms z102 i hi)
    simp only [refBad, Bool.or_eq_true, decide_eq_true_eq, Bool.not_eq_true', Bool.and_eq_false_iff, not_or, Bool.not_eq_false, inB_true] at this
    omega
  refine fold_from (fun k s i => spec_RefundOf.l1 k l ms s i) (refStep l) z102 ms (fun i s => -(1073741824 * (i : Int)) ≤ s ∧ s ≤ 1073741824 * (i : Int)) 0 (fun s => some (s, 0)) (fun k s i hi hp => ?_) (fun s i hi hp => refStep_bd l (List.all_eq_true.1 hok) s _ i (List.all_eq_true.1 hms _ (getD_mem ms z102 i hi)) (by have := hgood i hi; omega) hp.1 hp.2) (fun k s _ hp => ?_) k 0 (by omega) ⟨by omega, by omega⟩
  · show spec_RefundOf.l1 (k + 1) l ms s i = _
    simp only [spec_RefundOf.l1]
    have hrd : rd_T102 ms (i : Int) = ms.getD i z102 := by simp only [rd_T102, Int.toNat_natCast]
    have hx := List.all_eq_true.1 hms _ (getD_mem ms z102 i hi)
    have hg := hgood i hi
    have hb := refStep_bd l (List.all_eq_true.1 hok) s _ i hx (by omega) hp.1 hp.2
    have h3 := price_bd (List.all_eq_true.1 hok) (ms.getD i z102).f1.toNat (by omega)
    have hx2 := okMatch_iff.1 hx
    have h4 := mul_bd (a := (ms.getD i z102).f2) (b := (l.getD (ms.getD i z102).f1.toNat z75).f3) (by omega) (by omega) (by omega) (by omega)
    unfold refStep at hb ⊢
    rw [if_pos (by omega), if_pos (by omega), hrd, if_pos (by omega), if_pos (by omega)]
    have hro : rd_T75 l (ms.getD i z102).f1 = l.getD (ms.getD i z102).f1.toNat z75 := by simp only [rd_T75]
    rw [hro, wrap_mid (i := (ms.getD i z102).f2) (by omega) (by omega), wrap_mid (i := (l.getD (ms.getD i z102).f1.toNat z75).f3) (by omega) (by omega), wrap_mid (i := (ms.getD i z102).f2 * (l.getD (ms.getD i z102).f1.toNat z75).f3) (by omega) (by omega), wrap_mid (i := (i : Int) + 1) (by omega) (by omega), wrap_mid (by omega) (by omega), show ((i : Int) + 1) = ((i + 1 : Nat) : Int) from rfl]
  · show spec_RefundOf.l1 (k + 1) l ms s _ = _
    simp only [spec_RefundOf.l1]
    rw [if_neg (by omega)]
theorem sRef0 (l : List S75) (m : List S81) (ms : List S102) (hok : l.all okOrder = true) (hl : l.length ≤ 1048576) (hml : m.length ≤ 1048576) (hms : ms.all okMatch = true) (hm : ms.length ≤ 1048576) (k : Nat) (hk : ms.length + ms.length + 1 < k) : spec_RefundOf.l0 k l m ms 0 = if ms.any (refBad l.length m.length) = true then some (0, 2) else some (ms.foldl (refStep l) 0, 0) := by
  have step : ∀ k i : Nat, i < ms.length → spec_RefundOf.l0 (k + 1) l m ms i = if (!refBad l.length m.length (ms.getD i z102)) = true then spec_RefundOf.l0 k l m ms ((i + 1 : Nat) : Int) else some (0, 2) := fun k i hi => by
    simp only [spec_RefundOf.l0]
    have hrd : rd_T102 ms (i : Int) = ms.getD i z102 := by simp only [rd_T102, Int.toNat_natCast]
    have hx := okMatch_iff.1 (List.all_eq_true.1 hms _ (getD_mem ms z102 i hi))
    rw [if_pos (by omega), if_pos (by omega), hrd]
    generalize ms.getD i z102 = x at hx
    rw [wrap_mid (i := x.f0) (by omega) (by omega), wrap_mid (i := x.f1) (by omega) (by omega), wrap_mid (i := (m.length : Int) - 1) (by omega) (by omega), wrap_mid (i := (l.length : Int) - 1) (by omega) (by omega), wrap_mid (i := (i : Int) + 1) (by omega) (by omega), show ((i : Int) + 1) = ((i + 1 : Nat) : Int) from rfl]
    simp only [sIn_is, Option.bind_some, refBad]
    by_cases h0 : inB x.f0 0 ((m.length : Int) - 1) = true <;> by_cases h1 : inB x.f1 0 ((l.length : Int) - 1) = true <;> by_cases h2 : x.f2 < 0 <;> simp [h0, h1, h2]
  by_cases h : ms.any (refBad l.length m.length) = true
  · rw [if_pos h]
    refine stop_from (fun k i => spec_RefundOf.l0 k l m ms i) (fun x => !refBad l.length m.length x) z102 ms (some (0, 2)) step k (by omega) ?_
    obtain ⟨x, hx, hb⟩ := List.any_eq_true.1 h
    cases hq : ms.all (fun x => !refBad l.length m.length x) with
    | false => rfl
    | true =>
      have := List.all_eq_true.1 hq x hx
      rw [hb] at this
      cases this
  · rw [if_neg h]
    have h' : ms.any (refBad l.length m.length) = false := by simpa using h
    have := pass_from (fun k i => spec_RefundOf.l0 k l m ms i) (fun x => !refBad l.length m.length x) z102 ms (some (0, 2)) step (by
      rw [List.all_eq_true]
      intro x hx
      have := List.any_eq_false.1 h' x hx
      simp [this]) (k - ms.length)
    rw [show k - ms.length + ms.length = k by omega] at this
    refine this.trans ?_
    obtain ⟨j, hj⟩ : ∃ j, k - ms.length = j + 1 := ⟨k - ms.length - 1, by omega⟩
    rw [hj]
    show spec_RefundOf.l0 (j + 1) l m ms _ = _
    simp only [spec_RefundOf.l0]
    rw [if_neg (by omega)]
    exact sRef1 l ms m.length hok hl hms hm h' j (by omega)
theorem sRefund_is (l : List S75) (m : List S81) (ms : List S102) (hok : l.all okOrder = true) (hl : l.length ≤ 1048576) (hom : m.all okReturn = true) (hml : m.length ≤ 1048576) (hms : ms.all okMatch = true) (hm : ms.length ≤ 1048576) (k : Nat) (hk : ms.length + ms.length + l.length + m.length + 1 < k) : spec_RefundOf.f k l m ms = some (refundRes l m ms) := by
  unfold spec_RefundOf.f refundRes
  rw [sAsked_is l m true hok hom hl hml k (by omega) (by omega), Option.bind_some, sRef0 l m ms hok hl hml hms hm k (by omega)]
  unfold askedB
  by_cases h0 : (ordersB l && returnsB m) = true
  · rw [if_pos h0, if_pos h0]
    simp only [if_true]
    split <;> rfl
  · rw [if_neg h0, if_neg h0]
    simp
theorem Pure.FnExactRefundOf (y0 : List (S77)) (y1 : List (S96)) (y2 : List (S104)) (w0 : (y0.length ≤ maxLen ∧ ∀ x ∈ y0, wf77 x)) (w1 : (y1.length ≤ maxLen ∧ ∀ x ∈ y1, wf96 x)) (w2 : (y2.length ≤ maxLen ∧ ∀ x ∈ y2, wf104 x)) : ∃ k, laws_FnExactRefundOf.f k y0 y1 y2 = some true := by
  have hok := okOrder_all y0 w0
  have hom := okReturn_all y1 w1
  have hos := okMatch_all y2 w2
  by_cases h1 : (1048576 : Int) - y0.length < 0
  · refine ⟨0, ?_⟩
    unfold laws_FnExactRefundOf.f
    rw [szOrderS_is y0 _ w0.1 (by omega) (by omega), Option.bind_some]
    simp [h1]
  · by_cases h2 : (1048576 : Int) - y0.length - y1.length < 0
    · refine ⟨0, ?_⟩
      unfold laws_FnExactRefundOf.f
      rw [szOrderS_is y0 _ w0.1 (by omega) (by omega), Option.bind_some, if_neg h1, if_neg h1, szReturnS_is y1 _ w1.1 (by omega) (by omega), Option.bind_some]
      simp [h2]
    · by_cases h3 : (1048576 : Int) - y0.length - y1.length - y2.length < 0
      · refine ⟨0, ?_⟩
        unfold laws_FnExactRefundOf.f
        rw [szOrderS_is y0 _ w0.1 (by omega) (by omega), Option.bind_some, if_neg h1, if_neg h1, szReturnS_is y1 _ w1.1 (by omega) (by omega), Option.bind_some, if_neg h2, if_neg h2, szMatchS_is y2 _ w2.1 (by omega) (by omega), Option.bind_some]
        simp [h3]
      · have hl' : (y0.map cvOrder).length ≤ 1048576 := by rw [List.length_map]; omega
        have hlm : (y0.map cvOrder).length = y0.length := List.length_map ..
        have hm' : (y1.map cvReturn).length ≤ 1048576 := by rw [List.length_map]; omega
        have hmm : (y1.map cvReturn).length = y1.length := List.length_map ..
        have hs' : (y2.map cvMatch).length ≤ 1048576 := by rw [List.length_map]; omega
        have hsm : (y2.map cvMatch).length = y2.length := List.length_map ..
        have hi : impl_RefundOf.f (y0.map cvOrder) (y1.map cvReturn) (y2.map cvMatch) = some (refundRes (y0.map cvOrder) (y1.map cvReturn) (y2.map cvMatch)) := by
          unfold impl_RefundOf.f
          rw [if_pos ⟨⟨hok, hl'⟩, ⟨hom, hm'⟩, hos, hs'⟩]
        refine ⟨y0.length + y1.length + y2.length + y2.length + 4, ?_⟩
        unfold laws_FnExactRefundOf.f
        rw [szOrderS_is y0 _ w0.1 (by omega) (by omega), Option.bind_some, if_neg h1, if_neg h1, szReturnS_is y1 _ w1.1 (by omega) (by omega), Option.bind_some, if_neg h2, if_neg h2, szMatchS_is y2 _ w2.1 (by omega) (by omega), Option.bind_some, if_neg h3, if_neg h3]
        rw [toOrderS_is y0 (by omega) _ (by omega), Option.bind_some, toReturnS_is y1 (by omega) _ (by omega), Option.bind_some, toMatchS_is y2 (by omega) _ (by omega), Option.bind_some, sRefund_is _ _ _ hok hl' hom hm' hos hs' _ (by omega), Option.bind_some, Option.bind_some, Option.bind_some, Option.bind_some, hi, Option.bind_some, if_pos rfl, bne_self_eq_false]
        rw [laws_FnExactRefundOf.j0, if_neg (by simp), toOrderS_is y0 (by omega) _ (by omega), Option.bind_some, eqOrderS_is _ _ hl' _ (by omega), Option.bind_some, if_pos (by simp), toReturnS_is y1 (by omega) _ (by omega), Option.bind_some, eqReturnS_is _ _ hm' _ (by omega), Option.bind_some, if_pos (by simp), toMatchS_is y2 (by omega) _ (by omega), Option.bind_some, eqMatchS_is _ _ hs' _ (by omega), Option.bind_some, if_pos (by simp)]
end Go.Proofs.Ytennlgkacijnnaa.Q
