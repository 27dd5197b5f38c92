/- The laws' marks in matches. -/
import Derived.Test.YtlefddghiiigeaaMarksO
import Derived.Test.YtlefddghiiigeaaQ5
set_option linter.unusedVariables false
set_option linter.unusedSimpArgs false
namespace Go.Proofs.Ytlefddghiiigeaa.Q
open Go.RowKit Go.Proofs.YtlefddghiiigeaaW.PrintWords Go.Proofs.YtlefddghiiigeaaW.PrintLast Go.Proofs.YtlefddghiiigeaaW.PrintMore Go.Proofs.Ytlefddghiiigeaa.Loops
def mkMatch (a : Int) : S53 := ⟨IntKind.i8.wrap a, IntKind.i8.wrap (a + 1), IntKind.i16.wrap (a + 1 + 1)⟩
theorem set_get {l : List S53} {i : Nat} (h : i < l.length) (x : S53) : rd_T53 (l.set i x) (i : Int) = x := by
  simp only [rd_T53, Int.toNat_natCast, List.getD_eq_getElem?_getD, List.getElem?_set]
  simp [h]
theorem markMatchS_is (l : List S53) (hl : l.length ≤ 1048576) (k : Nat) (hk : l.length < k) (a : Int) (ha : 0 ≤ a) (hb : a ≤ 1048576 * 1048576) : laws_markMatchS.f k l a = some (a + 3 * l.length, gmarks mkMatch 3 a l.length) := by
  unfold laws_markMatchS.f
  have := gmark_loop (fun k l a i => laws_markMatchS.l0 k l a i) mkMatch 3 (by omega) (fun k l a i h1 h2 h3 h4 => ?_) (fun k l a => ?_) l.length k l a 0 hl (by omega) (by omega) hk ha (by omega)
  · simpa using this
  · simp only [laws_markMatchS.l0]
    rw [if_pos (by omega), if_pos (by omega)]
    simp only [Option.bind_some, Int.toNat_natCast]
    rw [wrap_mid (i := (i : Int) + 1) (by omega) (by omega)]
    have e1 : wrap64 (a + 1) = a + 1 := wrap_mid (by omega) (by omega)
    have e2 : wrap64 (a + 1 + 1) = a + 1 + 1 := wrap_mid (by omega) (by omega)
    have e3 : wrap64 (a + 1 + 1 + 1) = a + ((3 : Nat) : Int) := by rw [wrap_mid (by omega) (by omega)]; omega
    rw [e1, e2, e3]
    simp only [set_get h1, List.set_set]
    rfl
  · simp only [laws_markMatchS.l0]
    rw [if_neg (by omega)]
theorem heldMatchS_is (n : Nat) (hn : n ≤ 1048576) (k : Nat) (hk : n < k) (a : Int) (ha : 0 ≤ a) (hb : a ≤ 1048576 * 1048576) : laws_heldMatchS.f k (gmarks mkMatch 3 a n) a = some (a + 3 * n) := by
  unfold laws_heldMatchS.f
  have := gheld_loop (fun k l a i => laws_heldMatchS.l0 k l a i) mkMatch 3 z53 n a hn ha hb (by omega) (fun k l a i h1 h2 h3 h4 h5 => ?_) (fun k l a => ?_) n k 0 (by omega) (by omega) hk
  · simpa using this
  · simp only [laws_heldMatchS.l0]
    have hrd : rd_T53 l (i : Int) = mkMatch a := by simp only [rd_T53, Int.toNat_natCast]; exact h5
    have e1 : wrap64 (a + 1) = a + 1 := wrap_mid (by omega) (by omega)
    have e2 : wrap64 (a + 1 + 1) = a + 1 + 1 := wrap_mid (by omega) (by omega)
    have e3 : wrap64 (a + 1 + 1 + 1) = a + ((3 : Nat) : Int) := by rw [wrap_mid (by omega) (by omega)]; omega
    rw [if_pos (by omega), if_pos (by omega), hrd, e1, e2, e3, if_pos (show (mkMatch a).f0 = IntKind.i8.wrap a from rfl), if_pos (show (mkMatch a).f1 = IntKind.i8.wrap (a + 1) from rfl), if_pos (show (mkMatch a).f2 = IntKind.i16.wrap (a + 1 + 1) from rfl), wrap_mid (i := (i : Int) + 1) (by omega) (by omega)]
    rfl
  · simp only [laws_heldMatchS.l0]
    rw [if_neg (by omega)]
instance : DecidableEq S53 := fun x y => decidable_of_iff (x.f0 = y.f0 ∧ x.f1 = y.f1 ∧ x.f2 = y.f2) (by cases x; cases y; simp)
theorem match_eq (x y : S53) : x = y ↔ x.f0 = y.f0 ∧ x.f1 = y.f1 ∧ x.f2 = y.f2 := by cases x; cases y; simp
theorem eqMatch_is (x y : S53) : laws_eqMatch.f x.f0 x.f1 x.f2 y.f0 y.f1 y.f2 = some (decide (x = y)) := by
  unfold laws_eqMatch.f
  by_cases h0 : x.f0 = y.f0 <;> by_cases h1 : x.f1 = y.f1 <;> by_cases h2 : x.f2 = y.f2 <;> simp [match_eq, h0, h1, h2]
theorem eqMatchS_is (l m : List S53) (hl : l.length ≤ 1048576) (k : Nat) (hk : l.length < k) : laws_eqMatchS.f k l m = some (decide (l = m)) := by
  unfold laws_eqMatchS.f
  by_cases h : l.length = m.length
  · rw [if_pos (by omega)]
    refine same_all laws_eqMatchS.l0 z53 (fun k l m i h0 h1 h2 => ?_) (fun k l m i h => ?_) l m h hl k hk
    · simp only [laws_eqMatchS.l0]
      rw [if_pos h1, if_pos h0, if_pos (by omega), eqMatch_is, Option.bind_some]
      by_cases hq : l.getD i.toNat z53 = m.getD i.toNat z53 <;> simp [rd_T53, hq]
    · simp only [laws_eqMatchS.l0]
      rw [if_neg (by omega)]
  · rw [if_neg (by omega)]
    have : l ≠ m := fun e => h (by rw [e])
    simp [this]
end Go.Proofs.Ytlefddghiiigeaa.Q
