/- What matches computes, over lists. -/
import Derived.Test.YtlefddghiiigeaaHCan
import Derived.Test.YtlefddghiiigeaaMA
import Derived.Test.YtlefddghiiigeaaOrdS
set_option linter.unusedVariables false
set_option linter.unusedSimpArgs false
namespace Go.Proofs.Ytlefddghiiigeaa.Q
open Go.RowKit Go.Proofs.YtlefddghiiigeaaW.PrintWords
def cfM (l : List S55) (x y : Fin (l.length - 1 + 1)) : Int := cmpI (l.getD x.val z55).f4 (l.getD y.val z55).f4
/-- The places of orders, in the order of their days. -/
def ordA (l : List S55) : Array (Fin (l.length - 1 + 1)) := stab (ltF (cfM l)) (idxF l.length)
def ordL (l : List S55) : List Nat := (ordA l).toList.map (·.val)
theorem stab_size {n : Nat} (lt : Fin (n + 1) → Fin (n + 1) → Bool) (d : Array (Fin (n + 1))) : (stab lt d).size = d.size := by
  unfold stab
  split
  · exact insertionSort_size _ _ _ _
  · split
    · exact insertionSort_size _ _ _ _
    · rw [symM_size, insertionSort_size, insertionSort_size]
theorem ordA_size (l : List S55) : (ordA l).size = l.length := by
  unfold ordA
  rw [stab_size, idxF_size]
theorem ordL_length (l : List S55) : (ordL l).length = l.length := by
  unfold ordL
  rw [List.length_map, Array.length_toList, ordA_size]
theorem ordL_get (l : List S55) (j : Nat) (hj : j < l.length) : (ordL l).getD j 0 = ((ordA l)[j]!).val := by
  have h : j < (ordA l).size := by rw [ordA_size]; exact hj
  rw [getElem!_pos _ j h, ordL, List.getD_eq_getElem?_getD, List.getElem?_map, Array.getElem?_toList, Array.getElem?_eq_getElem h]
  rfl
theorem ordL_lt (l : List S55) (j : Nat) (hj : j < l.length) : (ordL l).getD j 0 < l.length := by
  rw [ordL_get l j hj]
  have := ((ordA l)[j]!).isLt
  omega
/-- What is under way: how many pieces each order has, the matches; how many are left of the return. -/
structure MS where
  h : List Int
  o : List S53
  left : Int
/-- One order is asked. -/
def take1 (l : List S55) (r : S50) (i : Nat) (days : Int) (s : MS) (k : Nat) : MS :=
  if 0 < min s.left (s.h.getD k 0) ∧ canB (l.getD k z55) r days = true then ⟨s.h.set k (s.h.getD k 0 - min s.left (s.h.getD k 0)), s.o ++ [⟨(i : Int), (k : Int), min s.left (s.h.getD k 0)⟩], s.left - min s.left (s.h.getD k 0)⟩ else s
/-- One return. -/
def oneI (l : List S55) (m : List S50) (days : Int) (s : MS × List Int) (i : Nat) : MS × List Int :=
  let q := (ordL l).foldl (take1 l (m.getD i z50) i days) ⟨s.1.h, s.1.o, (m.getD i z50).f2⟩
  (q, s.2 ++ [q.left])
def runI (l : List S55) (m : List S50) (days : Int) : MS × List Int := (List.range m.length).foldl (oneI l m days) (⟨l.map (·.f2), [], 0⟩, [])
/-- What is known of it. -/
structure MOk (n : Nat) (b : Nat) (s : MS) : Prop where
  len : s.h.length = n
  hv : ∀ j, 0 ≤ s.h.getD j 0 ∧ s.h.getD j 0 ≤ 100
  l0 : 0 ≤ s.left
  l1 : s.left ≤ 100
  out : s.o.length ≤ b
theorem getD_set (l : List Int) (i j : Nat) (x : Int) : (l.set i x).getD j 0 = if i = j ∧ i < l.length then x else l.getD j 0 := by
  rw [List.getD_eq_getElem?_getD, List.getElem?_set]
  by_cases e : i = j
  · subst e
    by_cases h : i < l.length
    · rw [if_pos rfl, if_pos h, if_pos ⟨rfl, h⟩]; rfl
    · rw [if_pos rfl, if_neg h, if_neg (fun q => h q.2), List.getD_eq_getElem?_getD, List.getElem?_eq_none (by omega)]
  · rw [if_neg e, if_neg (fun q => e q.1), List.getD_eq_getElem?_getD]
theorem MOk.take {n b : Nat} {s : MS} (h : MOk n b s) (l : List S55) (r : S50) (i : Nat) (days : Int) (k : Nat) : MOk n (b + 1) (take1 l r i days s k) := by
  unfold take1
  split
  · rename_i c
    have h1 := h.hv k
    have h2 := h.l0
    have h3 := h.l1
    refine ⟨by show (List.set _ _ _).length = n; rw [List.length_set]; exact h.len, fun j => ?_, by show 0 ≤ s.left - _; omega, by show s.left - _ ≤ 100; omega, by show (s.o ++ [_]).length ≤ b + 1; have := h.out; simp; omega⟩
    show 0 ≤ (s.h.set k _).getD j 0 ∧ (s.h.set k _).getD j 0 ≤ 100
    rw [getD_set]
    split
    · omega
    · exact h.hv j
  · exact ⟨h.len, h.hv, h.l0, h.l1, by have := h.out; omega⟩
theorem ordersB_in {l : List S55} (h : ordersB l = true) (ho : l.all okOrder = true) : l.length ≤ 40 ∧ ∀ x ∈ l, okOrder x = true ∧ 0 ≤ x.f2 ∧ x.f2 ≤ 100 := by
  unfold ordersB at h
  simp only [Bool.and_eq_true, decide_eq_true_eq, Bool.not_eq_true'] at h
  refine ⟨by have := h.1; omega, fun x hx => ⟨List.all_eq_true.1 ho x hx, ?_⟩⟩
  have h2 := List.any_eq_false.1 h.2 x hx
  simp only [orderBad, retB, Bool.or_eq_true, Bool.not_eq_true', Bool.and_eq_false_imp, not_or] at h2
  have h3 := h2.1
  have : inB x.f2 1 100 = true := by
    cases hq : inB x.f2 1 100 with
    | true => rfl
    | false => exact absurd (fun _ _ h => by rw [hq] at h; cases h) h3
  rw [inB_true] at this
  omega
theorem returnsB_in {l : List S50} (h : returnsB l = true) (ho : l.all okReturn = true) : l.length ≤ 40 ∧ ∀ x ∈ l, okReturn x = true ∧ 0 ≤ x.f2 ∧ x.f2 ≤ 100 := by
  unfold returnsB at h
  simp only [Bool.and_eq_true, decide_eq_true_eq, Bool.not_eq_true'] at h
  refine ⟨by have := h.1; omega, fun x hx => ⟨List.all_eq_true.1 ho x hx, ?_⟩⟩
  have h2 := List.any_eq_false.1 h.2 x hx
  simp only [returnBad, retB, Bool.not_eq_true', Bool.and_eq_false_imp] at h2
  have : inB x.f2 1 100 = true := by
    cases hq : inB x.f2 1 100 with
    | true => rfl
    | false => exact absurd (fun _ _ h => by rw [hq] at h; cases h) h2
  rw [inB_true] at this
  omega
/-- The best order for a return, as the reference looks for it. -/
def bestStep (l : List S55) (h : List Int) (r : S50) (days : Int) (b : Int) (i : Nat) : Int :=
  if (0 < h.getD i 0 ∧ canB (l.getD i z55) r days = true) ∧ (b < 0 ∨ (l.getD i z55).f4 < (l.getD b.toNat z55).f4) then (i : Int) else b
def bestS (l : List S55) (h : List Int) (r : S50) (days : Int) : Int := (List.range' 0 l.length).foldl (bestStep l h r days) (-1)
/-- What is known of the best order so far. -/
structure Best (l : List S55) (h : List Int) (r : S50) (days : Int) (k : Nat) (b : Int) : Prop where
  none : b < 0 → b = -1 ∧ ∀ j, j < k → ¬ (0 < h.getD j 0 ∧ canB (l.getD j z55) r days = true)
  some : 0 ≤ b → b.toNat < k ∧ (0 < h.getD b.toNat 0 ∧ canB (l.getD b.toNat z55) r days = true) ∧ ∀ j, j < k → (0 < h.getD j 0 ∧ canB (l.getD j z55) r days = true) → j = b.toNat ∨ lexB (fun q => (l.getD q z55).f4) b.toNat j
theorem Best.step {l : List S55} {h : List Int} {r : S50} {days : Int} {k : Nat} {b : Int} (H : Best l h r days k b) : Best l h r days (k + 1) (bestStep l h r days b k) := by
  unfold bestStep
  by_cases hu : 0 < h.getD k 0 ∧ canB (l.getD k z55) r days = true
  · by_cases hb : b < 0
    · rw [if_pos ⟨hu, .inl hb⟩]
      refine ⟨fun e => by omega, fun _ => ⟨by rw [Int.toNat_natCast]; omega, by rw [Int.toNat_natCast]; exact hu, fun j hj hju => ?_⟩⟩
      rw [Int.toNat_natCast]
      by_cases e : j = k
      · exact .inl e
      · exact absurd hju ((H.none hb).2 j (by omega))
    · obtain ⟨h1, h2, h3⟩ := H.some (by omega)
      by_cases hd : (l.getD k z55).f4 < (l.getD b.toNat z55).f4
      · rw [if_pos ⟨hu, .inr hd⟩]
        refine ⟨fun e => by omega, fun _ => ⟨by rw [Int.toNat_natCast]; omega, by rw [Int.toNat_natCast]; exact hu, fun j hj hju => ?_⟩⟩
        rw [Int.toNat_natCast]
        by_cases e : j = k
        · exact .inl e
        · refine .inr ?_
          rcases h3 j (by omega) hju with e2 | e2
          · subst e2; exact .inl hd
          · exact lexB_trans (.inl hd) e2
      · rw [if_neg (fun q => by rcases q.2 with q | q; exact hb q; exact hd q)]
        refine ⟨fun e => absurd e hb, fun _ => ⟨by omega, h2, fun j hj hju => ?_⟩⟩
        by_cases e : j = k
        · subst e
          refine .inr ?_
          unfold lexB
          by_cases e2 : (l.getD b.toNat z55).f4 = (l.getD j z55).f4
          · exact .inr ⟨e2, h1⟩
          · exact .inl (show (l.getD b.toNat z55).f4 < (l.getD j z55).f4 by omega)
        · exact h3 j (by omega) hju
  · rw [if_neg (fun q => hu q.1)]
    refine ⟨fun e => ⟨(H.none e).1, fun j hj => ?_⟩, fun e => ?_⟩
    · by_cases e2 : j = k
      · subst e2; exact hu
      · exact (H.none e).2 j (by omega)
    · obtain ⟨h1, h2, h3⟩ := H.some e
      refine ⟨by omega, h2, fun j hj hju => ?_⟩
      by_cases e2 : j = k
      · subst e2; exact absurd hju hu
      · exact h3 j (by omega) hju
theorem best_go (l : List S55) (h : List Int) (r : S50) (days : Int) : ∀ (j k : Nat) (b : Int), Best l h r days k b → Best l h r days (k + j) ((List.range' k j).foldl (bestStep l h r days) b)
  | 0, k, b, H => H
  | j + 1, k, b, H => by
    have := best_go l h r days j (k + 1) _ H.step
    rw [show k + 1 + j = k + (j + 1) by omega] at this
    exact this
theorem bestS_is (l : List S55) (h : List Int) (r : S50) (days : Int) : Best l h r days l.length (bestS l h r days) := by
  have := best_go l h r days l.length 0 (-1) ⟨fun _ => ⟨rfl, fun j hj => by omega⟩, fun e => by omega⟩
  rw [Nat.zero_add] at this
  exact this
/-- One return, as the reference matches it. -/
def oneS (l : List S55) (r : S50) (i : Nat) (days : Int) : Nat → MS → MS
  | 0, s => s
  | f + 1, s => if 0 < s.left then (if bestS l s.h r days < 0 then s else oneS l r i days f ⟨s.h.set (bestS l s.h r days).toNat (s.h.getD (bestS l s.h r days).toNat 0 - min s.left (s.h.getD (bestS l s.h r days).toNat 0)), s.o ++ [⟨(i : Int), ((bestS l s.h r days).toNat : Int), min s.left (s.h.getD (bestS l s.h r days).toNat 0)⟩], s.left - min s.left (s.h.getD (bestS l s.h r days).toNat 0)⟩) else s
theorem oneS_fuel (l : List S55) (r : S50) (i : Nat) (days : Int) : ∀ (f f2 : Nat) (s : MS), s.left.toNat ≤ f → s.left.toNat ≤ f2 → oneS l r i days f s = oneS l r i days f2 s
  | 0, f2, s, h1, h2 => by
    cases f2 with
    | zero => rfl
    | succ f2 => rw [oneS, oneS, if_neg (by omega)]
  | f + 1, 0, s, h1, h2 => by rw [oneS, oneS, if_neg (by omega)]
  | f + 1, f2 + 1, s, h1, h2 => by
    rw [oneS, oneS]
    by_cases c : 0 < s.left
    · rw [if_pos c, if_pos c]
      by_cases c2 : bestS l s.h r days < 0
      · rw [if_pos c2, if_pos c2]
      · rw [if_neg c2, if_neg c2]
        have hb := ((bestS_is l s.h r days).some (by omega)).2.1.1
        exact oneS_fuel l r i days f f2 _ (by simp only; omega) (by simp only; omega)
    · rw [if_neg c, if_neg c]
def stepS (l : List S55) (m : List S50) (days : Int) (s : MS) (i : Nat) : MS := oneS l (m.getD i z50) i days 100 ⟨s.h, s.o, (m.getD i z50).f2⟩
def runS (l : List S55) (m : List S50) (days : Int) : MS := (List.range' 0 m.length).foldl (stepS l m days) ⟨l.map (·.f2), [], 0⟩
end Go.Proofs.Ytlefddghiiigeaa.Q
