/- The pure statement of FnExactStillWith: both sides tell the same number and code, for all orders, returns, buyers and items. -/
import Derived.Test.YtennlgkacijnnaaSpec6O
import Derived.Test.YtennlgkacijnnaaQ14
import Derived.Test.YtennlgkacijnnaaQ15
set_option linter.unusedVariables false
set_option linter.unusedSimpArgs false
namespace Go.Proofs.Ytennlgkacijnnaa.Q
open Go.RowKit Go.Proofs.YtennlgkacijnnaaW.PrintWords Go.Proofs.YtennlgkacijnnaaW.PrintMore Go.Proofs.Ytennlgkacijnnaa.Loops
def stillO (b it : Int) (s : Int) (x : S75) : Int := if x.f0 = b then (if x.f1 = it then s + x.f2 else s) else s
def stillR (b it : Int) (s : Int) (x : S81) : Int := if x.f0 = b then (if x.f1 = it then s - x.f2 else s) else s
theorem stillO_bd (b it s : Int) (x : S75) (i : Nat) (hx : okOrder x = true) (h0 : -(32768 * (i : Int)) ≤ s) (h1 : s ≤ 32768 * (i : Int)) : -(32768 * ((i + 1 : Nat) : Int)) ≤ stillO b it s x ∧ stillO b it s x ≤ 32768 * ((i + 1 : Nat) : Int) := by
  have := okOrder_iff.1 hx
  unfold stillO
  split <;> (try split) <;> omega
theorem stillR_bd (b it s : Int) (x : S81) (n i : Nat) (hx : okReturn x = true) (h0 : -(32768 * (n : Int)) - 32768 * (i : Int) ≤ s) (h1 : s ≤ 32768 * (n : Int) + 32768 * (i : Int)) : -(32768 * (n : Int)) - 32768 * ((i + 1 : Nat) : Int) ≤ stillR b it s x ∧ stillR b it s x ≤ 32768 * (n : Int) + 32768 * ((i + 1 : Nat) : Int) := by
  have := okReturn_iff.1 hx
  unfold stillR
  split <;> (try split) <;> omega
theorem sStill1 (m : List S81) (b it s : Int) (n : Nat) (hn : n ≤ 1048576) (hom : m.all okReturn = true) (hm : m.length ≤ 1048576) (h0 : -(32768 * (n : Int)) ≤ s) (h1 : s ≤ 32768 * (n : Int)) (k : Nat) (hk : m.length < k) : spec_StillWith.l1 k m b it s 0 = some (mx (m.foldl (stillR b it) s) 0, 0) := by
  refine fold_from (fun k s i => spec_StillWith.l1 k m b it s i) (stillR b it) z81 m (fun i s => -(32768 * (n : Int)) - 32768 * (i : Int) ≤ s ∧ s ≤ 32768 * (n : Int) + 32768 * (i : Int)) 0 (fun s => some (mx s 0, 0)) (fun k s i hi hp => ?_) (fun s i hi hp => stillR_bd b it s _ n i (List.all_eq_true.1 hom _ (getD_mem m z81 i hi)) hp.1 hp.2) (fun k s _ hp => ?_) k s (by omega) ⟨by omega, by omega⟩
  · show spec_StillWith.l1 (k + 1) m b it s i = _
    simp only [spec_StillWith.l1]
    have hrd : rd_T81 m (i : Int) = m.getD i z81 := by simp only [rd_T81, Int.toNat_natCast]
    have hx := okReturn_iff.1 (List.all_eq_true.1 hom _ (getD_mem m z81 i hi))
    rw [if_pos (by omega), if_pos (by omega), hrd]
    generalize m.getD i z81 = x at hx
    rw [wrap_mid (i := x.f0) (by omega) (by omega), wrap_mid (i := x.f1) (by omega) (by omega), wrap_mid (i := x.f2) (by omega) (by omega), wrap_mid (i := (i : Int) + 1) (by omega) (by omega), wrap_mid (i := s - x.f2) (by omega) (by omega), show ((i : Int) + 1) = ((i + 1 : Nat) : Int) from rfl]
    unfold stillR
    by_cases h2 : x.f0 = b <;> by_cases h3 : x.f1 = it <;> simp [h2, h3]
  · show spec_StillWith.l1 (k + 1) m b it s _ = _
    simp only [spec_StillWith.l1]
    rw [if_neg (by omega)]
    unfold spec_l00Max.f mx
    by_cases h : s < 0
    · simp [h]
    · simp [h]
theorem iStill1 (m : List S81) (b it s : Int) (n : Nat) (hn : n ≤ 1048576) (hom : m.all okReturn = true) (hm : m.length ≤ 1048576) (h0 : -(32768 * (n : Int)) ≤ s) (h1 : s ≤ 32768 * (n : Int)) (k : Nat) (hk : m.length < k) : impl_StillWith.l1 k b it s m m.length 0 = some (mx (m.foldl (stillR b it) s) 0, 0) := by
  refine fold_from (fun k s i => impl_StillWith.l1 k b it s m m.length i) (stillR b it) z81 m (fun i s => -(32768 * (n : Int)) - 32768 * (i : Int) ≤ s ∧ s ≤ 32768 * (n : Int) + 32768 * (i : Int)) 0 (fun s => some (mx s 0, 0)) (fun k s i hi hp => ?_) (fun s i hi hp => stillR_bd b it s _ n i (List.all_eq_true.1 hom _ (getD_mem m z81 i hi)) hp.1 hp.2) (fun k s _ hp => ?_) k s (by omega) ⟨by omega, by omega⟩
  · show impl_StillWith.l1 (k + 1) b it s m m.length i = _
    simp only [impl_StillWith.l1]
    have hrd : rd_T81 m (i : Int) = m.getD i z81 := by simp only [rd_T81, Int.toNat_natCast]
    have hx := okReturn_iff.1 (List.all_eq_true.1 hom _ (getD_mem m z81 i hi))
    rw [if_pos (by omega), if_pos (by omega), if_pos (by omega), hrd]
    generalize m.getD i z81 = x at hx
    rw [wrap_mid (i := x.f0) (by omega) (by omega), wrap_mid (i := x.f1) (by omega) (by omega), wrap_mid (i := x.f2) (by omega) (by omega), wrap_mid (i := (i : Int) + 1) (by omega) (by omega), show ((i : Int) + 1) = ((i + 1 : Nat) : Int) from rfl]
    have e0 : wrap64 (s - wrap64 0) = s := by rw [wrap_mid (i := 0) (by omega) (by omega), wrap_mid (by omega) (by omega)]; omega
    have e1 : wrap64 (s - wrap64 x.f2) = s - x.f2 := by rw [wrap_mid (i := x.f2) (by omega) (by omega), wrap_mid (by omega) (by omega)]
    unfold stillR impl_bit.f
    by_cases h2 : x.f0 = b <;> by_cases h3 : x.f1 = it <;> simp [h2, h3, e0, e1]
  · show impl_StillWith.l1 (k + 1) b it s m m.length _ = _
    simp only [impl_StillWith.l1]
    rw [if_neg (by omega)]
def stillV (l : List S75) (m : List S81) (b it : Int) : Int := mx (m.foldl (stillR b it) (l.foldl (stillO b it) 0)) 0
theorem sStill0 (l : List S75) (m : List S81) (b it : Int) (hok : l.all okOrder = true) (hl : l.length ≤ 1048576) (hom : m.all okReturn = true) (hm : m.length ≤ 1048576) (k : Nat) (hk : l.length + m.length + 1 < k) : spec_StillWith.l0 k l m b it 0 0 = some (stillV l m b it, 0) := by
  refine fold_from (fun k s i => spec_StillWith.l0 k l m b it s i) (stillO b it) z75 l (fun i s => -(32768 * (i : Int)) ≤ s ∧ s ≤ 32768 * (i : Int)) (m.length + 1) (fun s => some (mx (m.foldl (stillR b it) s) 0, 0)) (fun k s i hi hp => ?_) (fun s i hi hp => stillO_bd b it s _ i (List.all_eq_true.1 hok _ (getD_mem l z75 i hi)) hp.1 hp.2) (fun k s hk hp => ?_) k 0 (by omega) ⟨by omega, by omega⟩
  · show spec_StillWith.l0 (k + 1) l m b it s i = _
    simp only [spec_StillWith.l0]
    have hrd : rd_T75 l (i : Int) = l.getD i z75 := by simp only [rd_T75, Int.toNat_natCast]
    have hx := okOrder_iff.1 (List.all_eq_true.1 hok _ (getD_mem l z75 i hi))
    rw [if_pos (by omega), if_pos (by omega), hrd]
    generalize l.getD i z75 = x at hx
    rw [wrap_mid (i := x.f0) (by omega) (by omega), wrap_mid (i := x.f1) (by omega) (by omega), wrap_mid (i := x.f2) (by omega) (by omega), wrap_mid (i := (i : Int) + 1) (by omega) (by omega), wrap_mid (i := s + x.f2) (by omega) (by omega), show ((i : Int) + 1) = ((i + 1 : Nat) : Int) from rfl]
    unfold stillO
    by_cases h2 : x.f0 = b <;> by_cases h3 : x.f1 = it <;> simp [h2, h3]
  · show spec_StillWith.l0 (k + 1) l m b it s _ = _
    simp only [spec_StillWith.l0]
    rw [if_neg (by omega)]
    exact sStill1 m b it s l.length hl hom hm hp.1 hp.2 k (by omega)
theorem iStill0 (l : List S75) (m : List S81) (b it : Int) (hok : l.all okOrder = true) (hl : l.length ≤ 1048576) (hom : m.all okReturn = true) (hm : m.length ≤ 1048576) (k : Nat) (hk : l.length + m.length + 1 < k) : impl_StillWith.l0 k m b it 0 l l.length 0 = some (stillV l m b it, 0) := by
  refine fold_from (fun k s i => impl_StillWith.l0 k m b it s l l.length i) (stillO b it) z75 l (fun i s => -(32768 * (i : Int)) ≤ s ∧ s ≤ 32768 * (i : Int)) (m.length + 1) (fun s => some (mx (m.foldl (stillR b it) s) 0, 0)) (fun k s i hi hp => ?_) (fun s i hi hp => stillO_bd b it s _ i (List.all_eq_true.1 hok _ (getD_mem l z75 i hi)) hp.1 hp.2) (fun k s hk hp => ?_) k 0 (by omega) ⟨by omega, by omega⟩
  · show impl_StillWith.l0 (k + 1) m b it s l l.length i = _
    simp only [impl_StillWith.l0]
    have hrd : rd_T75 l (i : Int) = l.getD i z75 := by simp only [rd_T75, Int.toNat_natCast]
    have hx := okOrder_iff.1 (List.all_eq_true.1 hok _ (getD_mem l z75 i hi))
    rw [if_pos (by omega), if_pos (by omega), if_pos (by omega), hrd]
    generalize l.getD i z75 = x at hx
    rw [wrap_mid (i := x.f0) (by omega) (by omega), wrap_mid (i := x.f1) (by omega) (by omega), wrap_mid (i := x.f2) (by omega) (by omega), wrap_mid (i := (i : Int) + 1) (by omega) (by omega), show ((i : Int) + 1) = ((i + 1 : Nat) : Int) from rfl]
    have e0 : wrap64 (s + wrap64 0) = s := by rw [wrap_mid (i := 0) (by omega) (by omega), wrap_mid (by omega) (by omega)]; omega
    have e1 : wrap64 (s + wrap64 x.f2) = s + x.f2 := by rw [wrap_mid (i := x.f2) (by omega) (by omega), wrap_mid (by omega) (by omega)]
    unfold stillO impl_bit.f
    by_cases h2 : x.f0 = b <;> by_cases h3 : x.f1 = it <;> simp [h2, h3, e0, e1]
  · show impl_StillWith.l0 (k + 1) m b it s l l.length _ = _
    simp only [impl_StillWith.l0]
    rw [if_neg (by omega)]
    exact iStill1 m b it s l.length hl hom hm hp.1 hp.2 k (by omega)
theorem iIn_is (a lo hi : Int) : impl_within.f a lo hi = some (inB a lo hi) := by
  unfold impl_within.f inB
  split
  · rename_i h
    simp [h]
  · rename_i h
    simp only [Option.some.injEq]
    rw [eq_comm, decide_eq_false_iff_not]
    omega
def stillRes (l : List S75) (m : List S81) (b it : Int) : Int × Int := if askedB (ordersB l) (returnsB m) (inB b 0 8 && inB it 0 11) = 0 then (stillV l m b it, 0) else (0, askedB (ordersB l) (returnsB m) (inB b 0 8 && inB it 0 11))
theorem sStill_is (l : List S75) (m : List S81) (b it : Int) (hok : l.all okOrder = true) (hl : l.length ≤ 1048576) (hom : m.all okReturn = true) (hm : m.length ≤ 1048576) (k : Nat) (hk : l.length + m.length + 1 < k) : spec_StillWith.f k l m b it = some (stillRes l m b it) := by
  unfold spec_StillWith.f stillRes
  rw [sKnown_is, Option.bind_some, sAsked_is l m _ hok hom hl hm k (by omega) (by omega), Option.bind_some]
  by_cases h : askedB (ordersB l) (returnsB m) (inB b 0 8 && inB it 0 11) = 0
  · rw [if_pos h, if_pos h, sStill0 l m b it hok hl hom hm k hk]
  · rw [if_neg h, if_neg h]
theorem iStill_is (l : List S75) (m : List S81) (b it : Int) (hok : l.all okOrder = true) (hl : l.length ≤ 1048576) (hom : m.all okReturn = true) (hm : m.length ≤ 1048576) (k : Nat) (hk : l.length + m.length + 2 < k) : impl_StillWith.f k l m b it = some (stillRes l m b it) := by
  obtain ⟨k, rfl⟩ : ∃ n, k = n + 1 := ⟨k - 1, by omega⟩
  unfold impl_StillWith.f stillRes impl_ValidOrders.f impl_ValidReturns.f
  rw [if_pos hok, Option.bind_some, if_pos hom]
  simp only [Option.bind_some, impl_StillWith.j0, impl_isBuyer.f, impl_isItem.f, iIn_is, iStill0 l m b it hok hl hom hm k (by omega), askedB]
  by_cases h0 : ordersB l = true <;> by_cases h1 : returnsB m = true <;> by_cases h2 : inB b 0 8 = true <;> by_cases h3 : inB it 0 11 = true <;> simp [h0, h1, h2, h3]
theorem Pure.FnExactStillWith (y0 : List (S77)) (y1 : List (S96)) (x2 : Int) (x3 : Int) (w0 : (y0.length ≤ maxLen ∧ ∀ x ∈ y0, wf77 x)) (w1 : (y1.length ≤ maxLen ∧ ∀ x ∈ y1, wf96 x)) (w2 : (Lit.int .i64 x2).wf = true) (w3 : (Lit.int .i64 x3).wf = true) : ∃ k, laws_FnExactStillWith.f k y0 y1 x2 x3 = some true := by
  have hok := okOrder_all y0 w0
  have hom := okReturn_all y1 w1
  by_cases h1 : (1048576 : Int) - y0.length < 0
  · refine ⟨0, ?_⟩
    unfold laws_FnExactStillWith.f
    rw [szOrderS_is y0 _ w0.1 (by omega) (by omega), Option.bind_some]
    simp [h1]
  · by_cases h2 : (1048576 : Int) - y0.length - y1.length < 0
    · refine ⟨0, ?_⟩
      unfold laws_FnExactStillWith.f
      rw [szOrderS_is y0 _ w0.1 (by omega) (by omega), Option.bind_some, if_neg h1, if_neg h1, szReturnS_is y1 _ w1.1 (by omega) (by omega), Option.bind_some]
      simp [h2]
    · have hl' : (y0.map cvOrder).length ≤ 1048576 := by rw [List.length_map]; omega
      have hlm : (y0.map cvOrder).length = y0.length := List.length_map ..
      have hm' : (y1.map cvReturn).length ≤ 1048576 := by rw [List.length_map]; omega
      have hmm : (y1.map cvReturn).length = y1.length := List.length_map ..
      refine ⟨y0.length + y1.length + 4, ?_⟩
      unfold laws_FnExactStillWith.f
      rw [szOrderS_is y0 _ w0.1 (by omega) (by omega), Option.bind_some, if_neg h1, if_neg h1, szReturnS_is y1 _ w1.1 (by omega) (by omega), Option.bind_some, if_neg h2, if_neg h2]
      rw [toOrderS_is y0 (by omega) _ (by omega), Option.bind_some, toReturnS_is y1 (by omega) _ (by omega), Option.bind_some, sStill_is _ _ _ _ hok hl' hom hm' _ (by omega), Option.bind_some, Option.bind_some, Option.bind_some, iStill_is _ _ _ _ hok hl' hom hm' _ (by omega), Option.bind_some, if_pos rfl, bne_self_eq_false]
      rw [laws_FnExactStillWith.j0, if_neg (by simp), toOrderS_is y0 (by omega) _ (by omega), Option.bind_some, eqOrderS_is _ _ hl' _ (by omega), Option.bind_some, if_pos (by simp), toReturnS_is y1 (by omega) _ (by omega), Option.bind_some, eqReturnS_is _ _ hm' _ (by omega), Option.bind_some, if_pos (by simp)]
end Go.Proofs.Ytennlgkacijnnaa.Q
