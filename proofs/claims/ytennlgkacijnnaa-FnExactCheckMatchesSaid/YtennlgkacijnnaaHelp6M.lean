/- What the helpers of the laws come to (sz.., to.., eq..), over lists alone. -/
import Derived.Test.YtennlgkacijnnaaQ5
import Derived.Test.YtennlgkacijnnaaQ6
import Derived.Test.YtennlgkacijnnaaQFit
import Derived.Test.YtennlgkacijnnaaLoops
import Derived.Test.YtennlgkacijnnaaHRefund
set_option linter.unusedVariables false
set_option linter.unusedSimpArgs false
namespace Go.Proofs.Ytennlgkacijnnaa.Q
open Go.RowKit Go.Proofs.YtennlgkacijnnaaW.PrintWords Go.Proofs.YtennlgkacijnnaaW.PrintLast Go.Proofs.YtennlgkacijnnaaW.PrintMore Go.Proofs.Ytennlgkacijnnaa.Loops
def cvMatch (x : S104) : S102 := ⟨x.f0, x.f1, x.f2⟩
instance : DecidableEq S102 := fun x y => decidable_of_iff (x.f0 = y.f0 ∧ x.f1 = y.f1 ∧ x.f2 = y.f2) (by cases x; cases y; simp)
theorem match_eq (x y : S102) : x = y ↔ x.f0 = y.f0 ∧ x.f1 = y.f1 ∧ x.f2 = y.f2 := by cases x; cases y; simp
theorem szMatchS_is (l : List S104) (a : Int) (hl : l.length ≤ maxLen) (h0 : 0 ≤ a) (ha : a ≤ 1048576) : laws_szMatchS.f l a = some (if a - l.length < 0 then -1 else a - l.length) := by
  unfold laws_szMatchS.f
  have e : wrap64 (a - (l.length : Int)) = a - l.length := by
    unfold maxLen at hl
    unfold wrap64
    omega
  rw [e]
  split <;> rfl
theorem toMatchS_is (l : List S104) (hl : l.length ≤ 1048576) (k : Nat) (hk : l.length < k) : laws_toMatchS.f k l = some (l.map cvMatch) := by
  unfold laws_toMatchS.f
  rw [if_pos (by omega), if_pos (by omega)]
  exact fill_all laws_toMatchS.l0 cvMatch z104 (fun k l xs i => by simp only [laws_toMatchS.l0, laws_toMatch.f, Option.bind_some]; rfl) l hl k hk _ (by simp)
theorem eqMatch_is (x y : S102) : laws_eqMatch.f x.f0 x.f1 x.f2 y.f0 y.f1 y.f2 = some (decide (x = y)) := by
  unfold laws_eqMatch.f
  simp only [match_eq]
  repeat' split
  all_goals simp [*]
theorem eqMatchS_is (l m : List S102) (hl : l.length ≤ 1048576) (k : Nat) (hk : l.length < k) : laws_eqMatchS.f k l m = some (decide (l = m)) := by
  unfold laws_eqMatchS.f
  by_cases h : l.length = m.length
  · rw [if_pos (by omega)]
    refine same_all laws_eqMatchS.l0 z102 (fun k l m i h0 h1 h2 => ?_) (fun k l m i h => ?_) l m h hl k hk
    · simp only [laws_eqMatchS.l0]
      rw [if_pos h1, if_pos h0, if_pos (by omega), eqMatch_is, Option.bind_some]
      by_cases hq : l.getD i.toNat z102 = m.getD i.toNat z102 <;> simp [rd_T102, hq]
    · simp only [laws_eqMatchS.l0]
      rw [if_neg (by omega)]
  · rw [if_neg (by omega)]
    have : l ≠ m := fun e => h (by rw [e])
    simp [this]
theorem okMatch_all (l : List S104) (w : l.length ≤ maxLen ∧ ∀ x ∈ l, wf104 x) : (l.map cvMatch).all okMatch = true := by
  rw [List.all_eq_true]
  intro x hx
  obtain ⟨z, hz, rfl⟩ := List.mem_map.1 hx
  obtain ⟨g0, g1, g2⟩ := w.2 z hz
  have := bounds_i8 g0
  have := bounds_i8 g1
  have := bounds_i16 g2
  rw [okMatch_iff]
  simp only [cvMatch]
  omega
end Go.Proofs.Ytennlgkacijnnaa.Q
