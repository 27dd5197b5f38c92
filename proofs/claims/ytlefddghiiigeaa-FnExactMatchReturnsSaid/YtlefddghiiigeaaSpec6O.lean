/- spec's l00In, l06Known, l06Orders, l06Returns, l06Asked over lists alone. -/
import Derived.Test.YtlefddghiiigeaaHelp6O
import Derived.Test.YtlefddghiiigeaaMC
set_option linter.unusedVariables false
set_option linter.unusedSimpArgs false
namespace Go.Proofs.Ytlefddghiiigeaa.Q
open Go.RowKit Go.Proofs.YtlefddghiiigeaaW.PrintWords Go.Proofs.YtlefddghiiigeaaW.PrintLast Go.Proofs.YtlefddghiiigeaaW.PrintMore Go.Proofs.Ytlefddghiiigeaa.Loops
theorem sIn_is (a lo hi : Int) : spec_l00In.f a lo hi = some (inB a lo hi) := by
  unfold spec_l00In.f inB
  split
  · rename_i h
    simp [h]
  · rename_i h
    simp only [Option.some.injEq]
    rw [eq_comm, decide_eq_false_iff_not]
    omega
theorem sKnown_is (a b : Int) : spec_l06Known.f a b = some (inB a 0 8 && inB b 0 11) := by
  unfold spec_l06Known.f
  simp only [sIn_is, Option.bind_some]
  by_cases h0 : inB a 0 8 = true <;> simp [h0]
theorem sOrders_is (l : List S55) (hok : l.all okOrder = true) (hl : l.length ≤ 1048576) (k : Nat) (hk : l.length < k) : spec_l06Orders.f k l = some (ordersB l) := by
  unfold spec_l06Orders.f
  have := all_from (fun k i => spec_l06Orders.l0 k l i) (fun x => !orderBad x) z55 l (some false) (some (decide ((l.length : Int) ≤ 40))) 0 (fun k i hi _ => ?_) (fun k _ => ?_) k (by omega)
  · refine this.trans ?_
    unfold ordersB
    by_cases h : l.any orderBad = true
    · rw [if_neg, h]
      · simp
      · rw [List.all_eq_true]
        intro hq
        obtain ⟨x, hx, hb⟩ := List.any_eq_true.1 h
        have := hq x hx
        rw [hb] at this
        cases this
    · have h' : l.any orderBad = false := by simpa using h
      rw [if_pos, h']
      · simp
      · rw [List.all_eq_true]
        intro x hx
        have := List.any_eq_false.1 h' x hx
        simp [this]
  · show spec_l06Orders.l0 (k + 1) l i = _
    simp only [spec_l06Orders.l0]
    rw [if_pos (by omega), if_pos (by omega)]
    have hx := okOrder_iff.1 (List.all_eq_true.1 hok _ (getD_mem l z55 i hi))
    simp only [rd_T55, Int.toNat_natCast]
    generalize l.getD i z55 = x at hx
    rw [wrap_mid (i := x.f0) (by omega) (by omega), wrap_mid (i := x.f1) (by omega) (by omega), wrap_mid (i := x.f2) (by omega) (by omega), wrap_mid (i := x.f3) (by omega) (by omega), wrap_mid (i := x.f4) (by omega) (by omega), wrap_mid (i := (i : Int) + 1) (by omega) (by omega)]
    simp only [sKnown_is, sIn_is, Option.bind_some, orderBad, retB]
    rw [show ((i : Int) + 1) = ((i + 1 : Nat) : Int) by omega]
    by_cases h0 : inB x.f0 0 8 = true <;> by_cases h1 : inB x.f1 0 11 = true <;> by_cases h2 : inB x.f2 1 100 = true <;> by_cases h3 : inB x.f3 0 10000 = true <;> by_cases h4 : inB x.f4 0 1000 = true <;> simp [h0, h1, h2, h3, h4]
  · show spec_l06Orders.l0 (k + 1) l _ = _
    simp only [spec_l06Orders.l0]
    rw [if_neg (by omega)]
theorem sReturns_is (l : List S50) (hok : l.all okReturn = true) (hl : l.length ≤ 1048576) (k : Nat) (hk : l.length < k) : spec_l06Returns.f k l = some (returnsB l) := by
  unfold spec_l06Returns.f
  have := all_from (fun k i => spec_l06Returns.l0 k l i) (fun x => !returnBad x) z50 l (some false) (some (decide ((l.length : Int) ≤ 40))) 0 (fun k i hi _ => ?_) (fun k _ => ?_) k (by omega)
  · refine this.trans ?_
    unfold returnsB
    by_cases h : l.any returnBad = true
    · rw [if_neg, h]
      · simp
      · rw [List.all_eq_true]
        intro hq
        obtain ⟨x, hx, hb⟩ := List.any_eq_true.1 h
        have := hq x hx
        rw [hb] at this
        cases this
    · have h' : l.any returnBad = false := by simpa using h
      rw [if_pos, h']
      · simp
      · rw [List.all_eq_true]
        intro x hx
        have := List.any_eq_false.1 h' x hx
        simp [this]
  · show spec_l06Returns.l0 (k + 1) l i = _
    simp only [spec_l06Returns.l0]
    rw [if_pos (by omega), if_pos (by omega)]
    have hx := okReturn_iff.1 (List.all_eq_true.1 hok _ (getD_mem l z50 i hi))
    simp only [rd_T50, Int.toNat_natCast]
    generalize l.getD i z50 = x at hx
    rw [wrap_mid (i := x.f0) (by omega) (by omega), wrap_mid (i := x.f1) (by omega) (by omega), wrap_mid (i := x.f2) (by omega) (by omega), wrap_mid (i := x.f3) (by omega) (by omega), wrap_mid (i := (i : Int) + 1) (by omega) (by omega)]
    simp only [sKnown_is, sIn_is, Option.bind_some, returnBad, retB]
    rw [show ((i : Int) + 1) = ((i + 1 : Nat) : Int) by omega]
    by_cases h0 : inB x.f0 0 8 = true <;> by_cases h1 : inB x.f1 0 11 = true <;> by_cases h2 : inB x.f2 1 100 = true <;> by_cases h3 : inB x.f3 0 1000 = true <;> simp [h0, h1, h2, h3]
  · show spec_l06Returns.l0 (k + 1) l _ = _
    simp only [spec_l06Returns.l0]
    rw [if_neg (by omega)]
/-- The code of orders, returns and whether numbers are as told. -/
def askedB (o r fine : Bool) : Int := if (o && r) = true then (if fine = true then 0 else 2) else 1
theorem sAsked_is (l : List S55) (m : List S50) (fine : Bool) (hok : l.all okOrder = true) (hom : m.all okReturn = true) (hl : l.length ≤ 1048576) (hm : m.length ≤ 1048576) (k : Nat) (hk : l.length < k) (hk2 : m.length < k) : spec_l06Asked.f k l m fine = some (askedB (ordersB l) (returnsB m) fine) := by
  obtain ⟨k, rfl⟩ : ∃ n, k = n + 1 := ⟨k - 1, by omega⟩
  unfold spec_l06Asked.f askedB
  rw [sOrders_is l hok hl _ hk, Option.bind_some]
  by_cases h0 : ordersB l = true
  · rw [if_pos h0, sReturns_is m hom hm _ hk2, Option.bind_some]
    simp only [spec_l06Asked.j0]
    by_cases h1 : returnsB m = true <;> cases fine <;> simp [h0, h1]
  · simp [spec_l06Asked.j0, h0]
end Go.Proofs.Ytlefddghiiigeaa.Q
