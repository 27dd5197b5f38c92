/- What LeftOver and MatchReturns return on both sides. -/
import Derived.Test.YtlefddghiiigeaaMatPure
import Derived.Test.YtlefddghiiigeaaSpec6O
import Derived.Test.YtlefddghiiigeaaQ6
set_option linter.unusedVariables false
set_option linter.unusedSimpArgs false
namespace Go.Proofs.Ytlefddghiiigeaa.Q
open Go.RowKit Go.Proofs.YtlefddghiiigeaaW.PrintWords Go.Proofs.YtlefddghiiigeaaW.PrintMore Go.Proofs.Ytlefddghiiigeaa.Loops
theorem take1_out {l : List S55} {r : S50} {i : Nat} {days : Int} (s : MS) (k : Nat) : (take1 l r i days s k).o.length ≤ s.o.length + 1 := by
  unfold take1
  split
  · show (s.o ++ [_]).length ≤ _; simp
  · omega
theorem fold_out {l : List S55} {r : S50} {i : Nat} {days : Int} : ∀ (P : List Nat) (s : MS), (P.foldl (take1 l r i days) s).o.length ≤ s.o.length + P.length
  | [], s => by simp
  | q :: P, s => by
    rw [List.foldl_cons, List.length_cons]
    have := fold_out (l := l) (r := r) (i := i) (days := days) P (take1 l r i days s q)
    have := take1_out (l := l) (r := r) (i := i) (days := days) s q
    omega
theorem run_out (l : List S55) (m : List S50) (days : Int) : ∀ (j k : Nat) (s : MS × List Int), ((List.range' k j).foldl (oneI l m days) s).1.o.length ≤ s.1.o.length + j * l.length
  | 0, k, s => by simp
  | j + 1, k, s => by
    rw [show List.range' k (j + 1) = k :: List.range' (k + 1) j from rfl, List.foldl_cons]
    have h1 := run_out l m days j (k + 1) (oneI l m days s k)
    have h2 : (oneI l m days s k).1.o.length ≤ s.1.o.length + (ordL l).length := fold_out _ _
    rw [ordL_length] at h2
    have h3 : (j + 1) * l.length = j * l.length + l.length := Nat.succ_mul _ _
    omega
theorem run_short (l : List S55) (m : List S50) (days : Int) (hl : l.length ≤ 40) (hm : m.length ≤ 40) : (runI l m days).1.o.length ≤ 1600 := by
  unfold runI
  rw [List.range_eq_range']
  have h := run_out l m days m.length 0 (⟨l.map (·.f2), [], 0⟩, [])
  have h2 : m.length * l.length ≤ 40 * 40 := Nat.mul_le_mul hm hl
  simp only [List.length_nil, Nat.zero_add] at h
  omega
def codeM (l : List S55) (m : List S50) (days : Int) : Int := askedB (ordersB l) (returnsB m) (inB days 0 1000)
theorem codeM_zero {l : List S55} {m : List S50} {days : Int} (h : codeM l m days = 0) : ordersB l = true ∧ returnsB m = true := by
  unfold codeM askedB at h
  by_cases h1 : ordersB l = true <;> by_cases h2 : returnsB m = true <;> by_cases h3 : inB days 0 1000 = true <;> simp [h1, h2, h3] at h ⊢
theorem iIn_is (a lo hi : Int) : impl_within.f a lo hi = some (inB a lo hi) := by
  unfold impl_within.f inB
  split
  · rename_i h
    simp [h]
  · rename_i h
    simp only [Option.some.injEq]
    rw [eq_comm, decide_eq_false_iff_not]
    omega
section
variable (l : List S55) (m : List S50) (days : Int) (hok : l.all okOrder = true) (hom : m.all okReturn = true)
theorem iDays_is (k : Nat) (hk : 0 < k) (hok : l.all okOrder = true) (hom : m.all okReturn = true) : impl_daysCode.f k l m days = some (codeM l m days) := by
  obtain ⟨k, rfl⟩ : ∃ n, k = n + 1 := ⟨k - 1, by omega⟩
  unfold impl_daysCode.f impl_ValidOrders.f impl_ValidReturns.f codeM askedB
  rw [if_pos hok, Option.bind_some, if_pos hom]
  simp only [Option.bind_some, impl_daysCode.j0, iIn_is, impl_unless.f]
  by_cases h0 : ordersB l = true <;> by_cases h1 : returnsB m = true <;> by_cases h2 : inB days 0 1000 = true <;> simp [h0, h1, h2]
theorem sCode_is (k : Nat) (hk : l.length + m.length + 1 < k) (hl : l.length ≤ 1048576) (hm : m.length ≤ 1048576) (hok : l.all okOrder = true) (hom : m.all okReturn = true) : ((spec_l06Days.f days).bind fun t => spec_l06Asked.f k l m t) = some (codeM l m days) := by
  unfold spec_l06Days.f
  rw [sIn_is, Option.bind_some, Option.bind_some, sAsked_is l m _ hok hom hl hm k (by omega) (by omega)]
  rfl
theorem iMat_is (hok : l.all okOrder = true) (hom : m.all okReturn = true) (h : codeM l m days = 0) : impl_matches.f l m days = some ((runI l m days).1.o, (runI l m days).2) := by
  unfold impl_matches.f
  exact if_pos ⟨⟨hok, hom⟩, codeM_zero h⟩
theorem sMat_is (hok : l.all okOrder = true) (hom : m.all okReturn = true) (h : codeM l m days = 0) : spec_l06Matches.f l m days = some (runI l m days).1.o := by
  unfold spec_l06Matches.f
  obtain ⟨h1, h2⟩ := codeM_zero h
  obtain ⟨a1, a2⟩ := ordersB_in h1 hok
  obtain ⟨b1, b2⟩ := returnsB_in h2 hom
  rw [if_pos ⟨⟨hok, hom⟩, h1, h2⟩, ← (run_is l m days a1 (fun x hx => (b2 x hx).2)).1]
end
end Go.Proofs.Ytlefddghiiigeaa.Q
