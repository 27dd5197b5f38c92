/- matches and l06Matches match alike; what is left over is what is not matched. -/
import Derived.Test.YtlefddghiiigeaaMatDef
set_option linter.unusedVariables false
set_option linter.unusedSimpArgs false
namespace Go.Proofs.Ytlefddghiiigeaa.Q
open Go.RowKit
theorem cmpI_lt (x y : Int) : decide (cmpI x y < 0) = decide (x < y) := by
  unfold cmpI
  congr 1
  simp only [eq_iff_iff]
  by_cases h : x < y
  · rw [if_pos h]; omega
  · rw [if_neg h]; split <;> omega
section
variable {l : List S55} {r : S50} {i : Nat} {days : Int}
def usable (l : List S55) (r : S50) (days : Int) (h : List Int) (k : Nat) : Prop := 0 < h.getD k 0 ∧ canB (l.getD k z55) r days = true
theorem take1_no {s : MS} {k : Nat} (h : ¬ (0 < s.left ∧ usable l r days s.h k)) : take1 l r i days s k = s := by
  unfold take1
  refine if_neg fun q => h ⟨?_, ?_, q.2⟩
  · have := q.1; omega
  · have := q.1; omega
theorem take1_yes {s : MS} {k : Nat} (h0 : 0 < s.left) (h : usable l r days s.h k) : take1 l r i days s k = ⟨s.h.set k (s.h.getD k 0 - min s.left (s.h.getD k 0)), s.o ++ [⟨(i : Int), (k : Int), min s.left (s.h.getD k 0)⟩], s.left - min s.left (s.h.getD k 0)⟩ := by
  unfold take1
  exact if_pos ⟨by have := h.1; omega, h.2⟩
theorem oneS_stop {s : MS} (f : Nat) (h : s.left ≤ 0) : oneS l r i days f s = s := by
  cases f with
  | zero => rfl
  | succ f => rw [oneS, if_neg (by omega)]
theorem fold_stop {s : MS} (h : s.left ≤ 0) : ∀ suf : List Nat, suf.foldl (take1 l r i days) s = s
  | [] => rfl
  | k :: suf => by rw [List.foldl_cons, take1_no (fun q => by have := q.1; omega)]; exact fold_stop h suf
theorem fold_is (hl : l.length ≤ 40) : ∀ (suf pre : List Nat) (s : MS), ordL l = pre ++ suf → s.h.length = l.length → (∀ j ∈ pre, ¬ usable l r days s.h j) → ∀ f, s.left.toNat ≤ f → suf.foldl (take1 l r i days) s = oneS l r i days f s
  | [], pre, s, ho, hlen, hpre, f, hf => by
    rw [List.foldl_nil]
    by_cases h0 : 0 < s.left
    · obtain ⟨f, rfl⟩ : ∃ f', f = f' + 1 := ⟨f - 1, by omega⟩
      rw [oneS, if_pos h0]
      have hb := bestS_is l s.h r days
      rw [if_pos]
      refine Int.not_le.1 fun hn => ?_
      obtain ⟨h1, h2, _⟩ := hb.some hn
      have hm : (bestS l s.h r days).toNat ∈ ordL l := (stabBy l.length hl (fun q => (l.getD q z55).f4) (cfM l) (fun x y => cmpI_lt _ _)).1.mem_iff.2 (List.mem_range.2 h1)
      rw [ho, List.append_nil] at hm
      exact hpre _ hm h2
    · rw [oneS_stop f (by omega)]
  | k :: suf, pre, s, ho, hlen, hpre, f, hf => by
    rw [List.foldl_cons]
    by_cases h0 : 0 < s.left
    · by_cases hu : usable l r days s.h k
      · rw [take1_yes h0 hu]
        obtain ⟨f, rfl⟩ : ∃ f', f = f' + 1 := ⟨f - 1, by omega⟩
        have hS := stabBy l.length hl (fun q => (l.getD q z55).f4) (cfM l) (fun x y => cmpI_lt _ _)
        have hmem : ∀ j, j ∈ ordL l ↔ j < l.length := fun j => (hS.1.mem_iff).trans List.mem_range
        have hk : k < l.length := (hmem k).1 (by rw [ho]; simp)
        have hb := bestS_is l s.h r days
        have hbn : ¬ bestS l s.h r days < 0 := fun e => (hb.none e).2 k hk hu
        obtain ⟨h1, h2, h3⟩ := hb.some (by omega)
        have hbk : (bestS l s.h r days).toNat = k := by
          rcases h3 k hk hu with e | e
          · exact e.symm
          · have hm := (hmem (bestS l s.h r days).toNat).2 h1
            rw [ho, List.mem_append] at hm
            rcases hm with hm | hm
            · exact absurd h2 (hpre _ hm)
            · rcases List.mem_cons.1 hm with hm | hm
              · exact hm
              · have hp : (ordL l).Pairwise (lexB (fun q => (l.getD q z55).f4)) := hS.2
                rw [ho] at hp
                have := (List.pairwise_cons.1 (List.pairwise_append.1 hp).2.1).1 _ hm
                exact absurd e (lexB_asym this)
        rw [oneS, if_pos h0, if_neg hbn, hbk]
        have hh := hu.1
        by_cases hc : s.left ≤ s.h.getD k 0
        · have e0 : s.left - min s.left (s.h.getD k 0) ≤ 0 := by omega
          rw [fold_stop (by exact e0), oneS_stop f (by exact e0)]
        · refine fold_is hl suf (pre ++ [k]) _ (by rw [ho, List.append_assoc]; rfl) (by show (List.set _ _ _).length = _; rw [List.length_set]; exact hlen) (fun j hj => ?_) f (by show (s.left - min s.left (s.h.getD k 0)).toNat ≤ f; omega)
          rintro ⟨g1, g2⟩
          have g1' : 0 < (s.h.set k (s.h.getD k 0 - min s.left (s.h.getD k 0))).getD j 0 := g1
          rw [getD_set] at g1'
          by_cases e : k = j
          · subst e
            rw [if_pos ⟨rfl, by omega⟩] at g1'
            omega
          · rw [if_neg (fun q => e q.1)] at g1'
            rcases List.mem_append.1 hj with hj | hj
            · exact hpre j hj ⟨g1', g2⟩
            · exact e (List.mem_singleton.1 hj).symm
      · rw [take1_no (fun q => hu q.2)]
        refine fold_is hl suf (pre ++ [k]) s (by rw [ho, List.append_assoc]; rfl) hlen (fun j hj => ?_) f hf
        rcases List.mem_append.1 hj with hj | hj
        · exact hpre j hj
        · rw [List.mem_singleton.1 hj]; exact hu
    · rw [take1_no (fun q => h0 q.1), fold_stop (by omega) suf, oneS_stop f (by omega)]
end
/-- What is left over, as it is counted. -/
def numOf (o : List S53) (r : Nat) : Int := ((o.filter fun x => x.f0 == (r : Int)).map (·.f2)).sum
theorem numOf_snoc (o : List S53) (x : S53) (r : Nat) : numOf (o ++ [x]) r = numOf o r + if x.f0 = (r : Int) then x.f2 else 0 := by
  unfold numOf
  rw [List.filter_append, List.map_append, List.sum_append]
  congr 1
  by_cases c : x.f0 = (r : Int)
  · rw [List.filter_cons, if_pos (by simp [c]), if_pos c]; simp
  · rw [List.filter_cons, if_neg (by simp [c]), if_neg c]; simp
/-- What is known of the matches behind some returns. -/
structure Cnt (m : List S50) (k : Nat) (o : List S53) (ov : List Int) : Prop where
  len : ov.length = k
  val : ∀ j, j < k → ov.getD j 0 = (m.getD j z50).f2 - numOf o j
  pl : ∀ x ∈ o, 0 ≤ x.f0 ∧ x.f0 < k ∧ 0 ≤ x.f2 ∧ x.f2 ≤ 100
theorem numOf_none (o : List S53) (r : Nat) (h : ∀ x ∈ o, x.f0 < (r : Int)) : numOf o r = 0 := by
  unfold numOf
  rw [List.filter_eq_nil_iff.2 (fun x hx e => by have := h x hx; simp at e; omega)]
  rfl
/-- In the midst of a return. -/
structure Mid (m : List S50) (k : Nat) (o0 : List S53) (s : MS) : Prop where
  old : ∀ j, j < k → numOf s.o j = numOf o0 j
  new : (m.getD k z50).f2 - numOf s.o k = s.left
  pl : ∀ x ∈ s.o, 0 ≤ x.f0 ∧ x.f0 < (k : Int) + 1 ∧ 0 ≤ x.f2 ∧ x.f2 ≤ 100
  l0 : 0 ≤ s.left
  l1 : s.left ≤ 100
theorem Mid.take {l : List S55} {m : List S50} {k : Nat} {o0 : List S53} {s : MS} (H : Mid m k o0 s) (r : S50) (days : Int) (q : Nat) : Mid m k o0 (take1 l r k days s q) := by
  by_cases hu : 0 < s.left ∧ usable l r days s.h q
  · rw [take1_yes hu.1 hu.2]
    have h0 := H.l0
    have h1 := H.l1
    have hh := hu.2.1
    refine ⟨fun j hj => ?_, ?_, fun x hx => ?_, by show 0 ≤ s.left - _; omega, by show s.left - _ ≤ 100; omega⟩
    · show numOf (s.o ++ [_]) j = _
      rw [numOf_snoc, if_neg (by simp only; omega), H.old j hj]; omega
    · show (m.getD k z50).f2 - numOf (s.o ++ [_]) k = s.left - _
      rw [numOf_snoc, if_pos rfl]
      have := H.new
      simp only
      omega
    · rcases List.mem_append.1 hx with hx | hx
      · exact H.pl x hx
      · rw [List.mem_singleton.1 hx]
        exact ⟨by simp only; omega, by simp only; omega, by simp only; omega, by simp only; omega⟩
  · rw [take1_no hu]; exact H
theorem Mid.fold {l : List S55} {m : List S50} {k : Nat} {o0 : List S53} (r : S50) (days : Int) : ∀ (P : List Nat) (s : MS), Mid m k o0 s → Mid m k o0 (P.foldl (take1 l r k days) s)
  | [], s, H => H
  | q :: P, s, H => Mid.fold r days P _ (H.take r days q)
theorem take1_len {l : List S55} {r : S50} {i : Nat} {days : Int} (s : MS) (k : Nat) : (take1 l r i days s k).h.length = s.h.length := by
  unfold take1
  split
  · show (List.set _ _ _).length = _; rw [List.length_set]
  · rfl
theorem fold_len {l : List S55} {r : S50} {i : Nat} {days : Int} : ∀ (P : List Nat) (s : MS), (P.foldl (take1 l r i days) s).h.length = s.h.length
  | [], s => rfl
  | q :: P, s => by rw [List.foldl_cons, fold_len P, take1_len]
theorem run_go (l : List S55) (m : List S50) (days : Int) (hl : l.length ≤ 40) (hm : ∀ x ∈ m, 0 ≤ x.f2 ∧ x.f2 ≤ 100) : ∀ (j k : Nat) (s : MS) (ov : List Int), k + j = m.length → s.h.length = l.length → Cnt m k s.o ov →
    (((List.range' k j).foldl (oneI l m days) (s, ov)).1 = (List.range' k j).foldl (stepS l m days) s) ∧ Cnt m m.length ((List.range' k j).foldl (oneI l m days) (s, ov)).1.o ((List.range' k j).foldl (oneI l m days) (s, ov)).2
  | 0, k, s, ov, hk, hs, hC => by
    have : k = m.length := by omega
    subst this
    exact ⟨rfl, hC⟩
  | j + 1, k, s, ov, hk, hs, hC => by
    rw [show List.range' k (j + 1) = k :: List.range' (k + 1) j from rfl, List.foldl_cons, List.foldl_cons]
    have hmk : m.getD k z50 ∈ m := by rw [List.getD_eq_getElem?_getD, List.getElem?_eq_getElem (by omega)]; exact List.getElem_mem (by omega)
    have hr := hm _ hmk
    have e1 : (ordL l).foldl (take1 l (m.getD k z50) k days) ⟨s.h, s.o, (m.getD k z50).f2⟩ = stepS l m days s k := by
      unfold stepS
      exact fold_is hl (ordL l) [] ⟨s.h, s.o, (m.getD k z50).f2⟩ rfl hs (fun j hj => by cases hj) 100 (by show (m.getD k z50).f2.toNat ≤ 100; omega)
    have hM : Mid m k s.o (stepS l m days s k) := by
      rw [← e1]
      refine Mid.fold _ days _ _ ⟨fun _ _ => rfl, ?_, fun x hx => ?_, hr.1, hr.2⟩
      · show _ - numOf s.o k = _
        rw [numOf_none s.o k (fun x hx => (hC.pl x hx).2.1)]; simp
      · have := hC.pl x hx; omega
    have e2 : oneI l m days (s, ov) k = (stepS l m days s k, ov ++ [(stepS l m days s k).left]) := by
      unfold oneI
      simp only
      rw [e1]
    rw [e2]
    refine run_go l m days hl hm j (k + 1) _ _ (by omega) (by rw [← e1, fold_len]; exact hs) ⟨by rw [List.length_append, hC.len]; rfl, fun q hq => ?_, fun x hx => by have := hM.pl x hx; push_cast; exact this⟩
    by_cases e : q = k
    · subst e
      rw [hM.new, List.getD_eq_getElem?_getD, List.getElem?_append_right (by rw [hC.len]; exact Nat.le_refl _), hC.len, Nat.sub_self]
      rfl
    · rw [hM.old q (by omega), ← hC.val q (by omega), List.getD_eq_getElem?_getD, List.getElem?_append_left (by rw [hC.len]; omega), List.getD_eq_getElem?_getD]
theorem run_is (l : List S55) (m : List S50) (days : Int) (hl : l.length ≤ 40) (hm : ∀ x ∈ m, 0 ≤ x.f2 ∧ x.f2 ≤ 100) : (runI l m days).1 = runS l m days ∧ Cnt m m.length (runI l m days).1.o (runI l m days).2 := by
  have := run_go l m days hl hm m.length 0 ⟨l.map (·.f2), [], 0⟩ [] (by omega) (by rw [List.length_map]) ⟨rfl, fun j hj => by omega, fun x hx => by cases hx⟩
  unfold runI runS
  rw [List.range_eq_range']
  exact this
end Go.Proofs.Ytlefddghiiigeaa.Q
