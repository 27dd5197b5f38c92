/- Which arrivals there are (behind one or more lanes), and that looking round by round finds them all. -/
import Derived.Test.YtgchiepnodoohaaHAll
set_option linter.unusedVariables false
namespace Go.Proofs.Ytgchiepnodoohaa.Q
/-- An arrival behind one or more lanes, from a station and an hour. -/
inductive Arr (t : Int) (l : List S82) (a0 h0 : Nat) : Nat → Nat → Prop
  | first (x : S82) (hx : x ∈ l) (k : Nat) (hf : x.f0.toNat = a0) (hg : goes t x.f2 x.f3 h0 k) : Arr t l a0 h0 x.f1.toNat k
  | more (x : S82) (hx : x ∈ l) (k k' : Nat) (hp : Arr t l a0 h0 x.f0.toNat k) (hg : goes t x.f2 x.f3 k k') : Arr t l a0 h0 x.f1.toNat k'
/-- Times that are just these arrivals. -/
def ArrT (t : Int) (l : List S82) (a0 h0 : Nat) (N : List Bool) : Prop := ∀ s h, s < 8 → h < 301 → (gat N s h = true ↔ Arr t l a0 h0 s h)
theorem Arr.step {t : Int} {l : List S82} {a0 h0 : Nat} {s h : Nat} {x : S82} (hx : x ∈ l) (hv : laneV x) (hsrc : (s = a0 ∧ h = h0) ∨ Arr t l a0 h0 s h) (hf : x.f0 = (s : Int)) {k : Nat} (hg : goes t x.f2 x.f3 h k) {q : Nat} (hq : x.f1 = (q : Int)) : Arr t l a0 h0 q k := by
  have e1 : x.f1.toNat = q := by omega
  have e0 : x.f0.toNat = s := by omega
  rw [← e1]
  rcases hsrc with ⟨rfl, rfl⟩ | hsrc
  · exact .first x hx k e0 hg
  · exact .more x hx h k (by rw [e0]; exact hsrc) hg
/-- What is known ahead of each round: O: all that has been found; A: what is new. -/
structure Bfs (t : Int) (l : List S82) (a0 h0 : Nat) (O A : List Bool) : Prop where
  lenO : O.length = 2408
  lenA : A.length = 2408
  found : ∀ s h, s < 8 → h < 301 → gat O s h = true → Arr t l a0 h0 s h
  new : ∀ s h, s < 8 → h < 301 → gat A s h = true → (s = a0 ∧ h = h0) ∨ Arr t l a0 h0 s h
  closed : ∀ s h, s < 8 → h < 301 → ((s = a0 ∧ h = h0) ∨ gat O s h = true) → gat A s h = true ∨ ∀ x ∈ l, x.f0 = (s : Int) → ∀ k, goes t x.f2 x.f3 h k → gat O x.f1.toNat k = true
/-- O and what N has besides; what N has and O has not. -/
def joinTo (p : Nat) (O N O' : List Bool) : Prop := ∀ i, i < 2408 → O'.getD i false = (O.getD i false || (decide (i < p) && N.getD i false))
def freshTo (p : Nat) (O N F : List Bool) : Prop := ∀ i, i < 2408 → F.getD i false = (decide (i < p) && (N.getD i false && !O.getD i false))
theorem join_start (O N : List Bool) : joinTo 0 O N O ∧ freshTo 0 O N noTimes := by
  refine ⟨fun i hi => by simp, fun i hi => ?_⟩
  rw [noTimes_get]
  simp
theorem set_getD (G : List Bool) (j i : Nat) (hj : j < G.length) (b : Bool) : (G.set j b).getD i false = if i = j then b else G.getD i false := by
  simp only [List.getD_eq_getElem?_getD]
  by_cases h : i = j
  · subst h
    rw [List.getElem?_set_self hj]
    simp
  · rw [List.getElem?_set_ne (Ne.symm h), if_neg h]
theorem join_keep {p : Nat} {O N O2 F2 : List Bool} (hp : p < 2408) (h : N.getD p false = false ∨ O2.getD p false = true) (hO : joinTo p O N O2) (hF : freshTo p O N F2) : joinTo (p + 1) O N O2 ∧ freshTo (p + 1) O N F2 := by
  have e := hO p hp
  rw [decide_eq_false (by omega), Bool.false_and, Bool.or_false] at e
  refine ⟨fun i hi => ?_, fun i hi => ?_⟩
  · rw [hO i hi]
    by_cases hip : i = p
    · subst hip
      rw [decide_eq_false (by omega : ¬ i < i), decide_eq_true (by omega : i < i + 1)]
      rcases h with h | h
      · rw [h]
        simp
      · rw [e] at h
        rw [h]
        simp
    · rw [show decide (i < p + 1) = decide (i < p) by congr 1; simp only [eq_iff_iff]; omega]
  · rw [hF i hi]
    by_cases hip : i = p
    · subst hip
      rw [decide_eq_false (by omega : ¬ i < i), decide_eq_true (by omega : i < i + 1)]
      rcases h with h | h
      · rw [h]
        simp
      · rw [e] at h
        rw [h]
        simp
    · rw [show decide (i < p + 1) = decide (i < p) by congr 1; simp only [eq_iff_iff]; omega]
theorem join_set {p : Nat} {O N O2 F2 : List Bool} (hp : p < 2408) (h1 : N.getD p false = true) (h2 : O2.getD p false = false) (lO : O2.length = 2408) (lF : F2.length = 2408) (hO : joinTo p O N O2) (hF : freshTo p O N F2) :
    joinTo (p + 1) O N (O2.set p true) ∧ freshTo (p + 1) O N (F2.set p true) := by
  have e := hO p hp
  rw [decide_eq_false (by omega), Bool.false_and, Bool.or_false, h2] at e
  refine ⟨fun i hi => ?_, fun i hi => ?_⟩
  · rw [set_getD _ _ _ (by omega)]
    by_cases hip : i = p
    · subst hip
      rw [if_pos rfl, decide_eq_true (by omega : i < i + 1), h1]
      simp
    · rw [if_neg hip, hO i hi, show decide (i < p + 1) = decide (i < p) by congr 1; simp only [eq_iff_iff]; omega]
  · rw [set_getD _ _ _ (by omega)]
    by_cases hip : i = p
    · subst hip
      rw [if_pos rfl, decide_eq_true (by omega : i < i + 1), h1, ← e]
      rfl
    · rw [if_neg hip, hF i hi, show decide (i < p + 1) = decide (i < p) by congr 1; simp only [eq_iff_iff]; omega]
theorem Bfs.start (t : Int) (l : List S82) (a0 h0 : Nat) (ha : a0 < 8) (hh : h0 < 301) : Bfs t l a0 h0 noTimes (noTimes.set (a0 * 301 + h0) true) := by
  refine ⟨noTimes_length, by rw [List.length_set, noTimes_length], fun s h hs hh' h1 => ?_, fun s h hs hh' h1 => ?_, fun s h hs hh' h1 => ?_⟩
  · unfold gat at h1
    rw [noTimes_get] at h1
    cases h1
  · unfold gat at h1
    rw [set_true _ _ _ (by rw [noTimes_length]; omega), noTimes_get] at h1
    rcases h1 with h1 | h1
    · exact .inl ⟨by omega, by omega⟩
    · cases h1
  · rcases h1 with ⟨rfl, rfl⟩ | h1
    · left
      unfold gat
      rw [set_true _ _ _ (by rw [noTimes_length]; omega)]
      exact .inl rfl
    · unfold gat at h1
      rw [noTimes_get] at h1
      cases h1
theorem Bfs.round {t : Int} {l : List S82} {a0 h0 : Nat} {O A N O' F : List Bool} (hl : ∀ x ∈ l, laneV x) (h : Bfs t l a0 h0 O A) (hN : NextT t l A N) (hO : joinTo 2408 O N O') (hF : freshTo 2408 O N F) (hO' : O'.length = 2408) (hF' : F.length = 2408) :
    Bfs t l a0 h0 O' F := by
  have gO : ∀ s h, s < 8 → h < 301 → gat O' s h = (gat O s h || gat N s h) := by
    intro s h hs hh
    unfold gat
    rw [hO _ (by omega), decide_eq_true (by omega : s * 301 + h < 2408), Bool.true_and]
  have gF : ∀ s h, s < 8 → h < 301 → gat F s h = (gat N s h && !gat O s h) := by
    intro s h hs hh
    unfold gat
    rw [hF _ (by omega), decide_eq_true (by omega : s * 301 + h < 2408), Bool.true_and]
  have gN : ∀ s h, s < 8 → h < 301 → gat N s h = true → Arr t l a0 h0 s h := by
    intro s k hs hk h1
    obtain ⟨x, hx, hx1, j, hj, h2, h3⟩ := (hN s k hs hk).1 h1
    have hv := hl x hx
    obtain ⟨v0, v1, v2, v3, _⟩ := hv
    exact Arr.step hx (hl x hx) (h.new x.f0.toNat j (by omega) hj h2) (by omega) h3 hx1
  refine ⟨hO', hF', fun s k hs hk h1 => ?_, fun s k hs hk h1 => ?_, fun s k hs hk h1 => ?_⟩
  · rw [gO s k hs hk, Bool.or_eq_true] at h1
    rcases h1 with h1 | h1
    · exact h.found s k hs hk h1
    · exact gN s k hs hk h1
  · rw [gF s k hs hk, Bool.and_eq_true] at h1
    exact .inr (gN s k hs hk h1.1)
  · have old : ((s = a0 ∧ k = h0) ∨ gat O s k = true) → gat F s k = true ∨ ∀ x ∈ l, x.f0 = (s : Int) → ∀ j, goes t x.f2 x.f3 k j → gat O' x.f1.toNat j = true := by
      intro h2
      right
      intro x hx hf j hg
      have hj := goes_le hg
      have hv := hl x hx
      obtain ⟨v0, v1, v2, v3, _⟩ := hv
      rw [gO _ _ (by omega) (by omega), Bool.or_eq_true]
      rcases h.closed s k hs hk h2 with h3 | h3
      · right
        rw [hN _ _ (by omega) (by omega)]
        exact ⟨x, hx, by omega, k, hk, by rw [hf]; exact h3, hg⟩
      · exact .inl (h3 x hx hf j hg)
    rcases h1 with h1 | h1
    · exact old (.inl h1)
    · rw [gO s k hs hk, Bool.or_eq_true] at h1
      cases hq : gat O s k with
      | true => exact old (.inr hq)
      | false =>
        left
        rw [gF s k hs hk, hq]
        rcases h1 with h1 | h1
        · rw [hq] at h1
          cases h1
        · rw [h1]
          rfl
theorem Bfs.done {t : Int} {l : List S82} {a0 h0 : Nat} {O : List Bool} (hl : ∀ x ∈ l, laneV x) (h : Bfs t l a0 h0 O noTimes) (ha : a0 < 8) (hh : h0 < 301) : ArrT t l a0 h0 O := by
  intro s k hs hk
  refine ⟨h.found s k hs hk, fun h1 => ?_⟩
  have no : ∀ s k, gat noTimes s k ≠ true := by
    intro s k
    unfold gat
    rw [noTimes_get]
    simp
  clear hs hk
  have key : ∀ s k, Arr t l a0 h0 s k → gat O s k = true := by
    intro s k h1
    induction h1 with
    | first x hx k hf hg =>
      have hv := hl x hx
      obtain ⟨v0, v1, v2, v3, _⟩ := hv
      exact ((h.closed a0 h0 ha hh (.inl ⟨rfl, rfl⟩)).resolve_left (no _ _)) x hx (by omega) k hg
    | more x hx k k' hp hg ih =>
      have hv := hl x hx
      obtain ⟨v0, v1, v2, v3, v4, _⟩ := hv
      have hk' := goes_le hg
      have hkk : k ≤ k' := by
        unfold goes at hg
        omega
      exact ((h.closed x.f0.toNat k (by omega) (by omega) (.inr ih)).resolve_left (no _ _)) x hx (by omega) k' hg
  exact key s k h1
/-- How much is not yet found. -/
def lack (O A : List Bool) : Nat := 2 * O.count false + (if A = noTimes then 0 else 1)
theorem ext_times {F G : List Bool} (hF : F.length = 2408) (hG : G.length = 2408) (h : ∀ i, i < 2408 → F.getD i false = G.getD i false) : F = G := by
  apply List.ext_getElem (by omega)
  intro i h1 h2
  have := h i (by omega)
  simp only [List.getD_eq_getElem?_getD, List.getElem?_eq_getElem h1, List.getElem?_eq_getElem h2, Option.getD_some] at this
  exact this
theorem count_le : ∀ (O O' : List Bool), O.length = O'.length → (∀ i, O.getD i false = true → O'.getD i false = true) → O'.count false ≤ O.count false
  | [], [], _, _ => Nat.le_refl _
  | x :: O, y :: O', hl, h => by
    have ih := count_le O O' (by simpa using hl) (fun i hi => by have := h (i + 1); simpa using this (by simpa using hi))
    have h0 := h 0
    rw [List.count_cons, List.count_cons]
    cases x <;> cases y <;> simp at h0 ⊢ <;> omega
  | [], _ :: _, hl, _ => by simp at hl
  | _ :: _, [], hl, _ => by simp at hl
theorem count_lt : ∀ (O O' : List Bool), O.length = O'.length → (∀ i, O.getD i false = true → O'.getD i false = true) → ∀ j, O.getD j false = false → O'.getD j false = true → O'.count false < O.count false
  | [], [], _, _, j, _, h2 => by simp at h2
  | x :: O, y :: O', hl, h, j, h1, h2 => by
    have hl' : O.length = O'.length := by simpa using hl
    have hr : ∀ i, O.getD i false = true → O'.getD i false = true := fun i hi => by have := h (i + 1); simpa using this (by simpa using hi)
    have ih := count_le O O' hl' hr
    have h0 := h 0
    rw [List.count_cons, List.count_cons]
    cases j with
    | zero =>
      simp at h1 h2
      subst h1 h2
      simp
      omega
    | succ j =>
      have ih2 := count_lt O O' hl' hr j (by simpa using h1) (by simpa using h2)
      cases x <;> cases y <;> simp at h0 ⊢ <;> omega
  | [], _ :: _, hl, _, _, _, _ => by simp at hl
  | _ :: _, [], hl, _, _, _, _ => by simp at hl
theorem lack_lt {O A N O' F : List Bool} (lO : O.length = 2408) (lO' : O'.length = 2408) (lF : F.length = 2408) (hO : joinTo 2408 O N O') (hF : freshTo 2408 O N F) (hA : A ≠ noTimes) : lack O' F < lack O A := by
  have mono : ∀ i, O.getD i false = true → O'.getD i false = true := by
    intro i hi
    have hi' : i < 2408 := by
      rcases Nat.lt_or_ge i 2408 with h | h
      · exact h
      · rw [List.getD_eq_getElem?_getD, List.getElem?_eq_none (by omega)] at hi
        cases hi
    rw [hO i hi', hi]
    rfl
  unfold lack
  rw [if_neg hA]
  by_cases h : F = noTimes
  · rw [if_pos h]
    have := count_le O O' (by omega) mono
    omega
  · rw [if_neg h]
    have : ∃ j, j < 2408 ∧ F.getD j false = true := by
      apply Classical.byContradiction
      intro hn
      apply h
      apply ext_times lF noTimes_length
      intro i hi
      rw [noTimes_get]
      cases hq : F.getD i false with
      | false => rfl
      | true => exact absurd ⟨i, hi, hq⟩ hn
    obtain ⟨j, hj, hq⟩ := this
    rw [hF j hj, decide_eq_true hj, Bool.true_and, Bool.and_eq_true, Bool.not_eq_true'] at hq
    have := count_lt O O' (by omega) mono j hq.2 (by rw [hO j hj, decide_eq_true hj, hq.1]; simp)
    omega
end Go.Proofs.Ytgchiepnodoohaa.Q
