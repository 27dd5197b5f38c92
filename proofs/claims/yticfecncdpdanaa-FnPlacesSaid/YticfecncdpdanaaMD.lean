/- The most scans that can be right, over plain numbers: impl's table of lists, and spec's table of lengths with its pick, tell the same list. -/

set_option linter.unusedVariables false
set_option linter.unusedSimpArgs false
namespace Go.Proofs.Yticfecncdpdanaa.Most
/-- The first of the longest lists among B lo, .., B (lo + m - 1) that g takes; [] for none. -/
def restSel (B : Nat → List Int) (g : Nat → Bool) (lo : Nat) : Nat → List Int
  | 0 => []
  | m + 1 => if g (lo + m) = true ∧ (restSel B g lo m).length < (B (lo + m)).length then B (lo + m) else restSel B g lo m
/-- The table of impl behind d rounds: those of the d last places are filled. -/
def bestL (go : Nat → Nat → Bool) (n : Nat) : Nat → Nat → List Int
  | 0, _ => []
  | d + 1, j => if j = n - (d + 1) then ((n - (d + 1) : Nat) : Int) :: restSel (bestL go n d) (go (n - (d + 1))) (n - d) d else bestL go n d j
def outL (go : Nat → Nat → Bool) (n : Nat) : Nat → List Int
  | 0 => []
  | d + 1 => if (outL go n d).length ≤ (bestL go n (d + 1) (n - (d + 1))).length then bestL go n (d + 1) (n - (d + 1)) else outL go n d
def maxSel (L : Nat → Nat) (g : Nat → Bool) (lo : Nat) : Nat → Nat
  | 0 => 1
  | m + 1 => if g (lo + m) = true then max (maxSel L g lo m) (L (lo + m) + 1) else maxSel L g lo m
def longL (go : Nat → Nat → Bool) (n : Nat) : Nat → Nat → Nat
  | 0, _ => 0
  | d + 1, j => if j = n - (d + 1) then maxSel (longL go n d) (go (n - (d + 1))) (n - d) d else longL go n d j
def needL (L : Nat → Nat) : Nat → Nat
  | 0 => 0
  | k + 1 => max (needL L k) (L k)
/-- One look of spec's last loop: what is told, the last one told, how many are wanted. -/
def pick1 (go : Nat → Nat → Bool) (L : Nat → Nat) (s : List Int × Option Nat × Nat) (i : Nat) : List Int × Option Nat × Nat :=
  if 0 < s.2.2 ∧ L i = s.2.2 ∧ (match s.2.1 with | none => true | some j => go j i) = true then (s.1 ++ [(i : Int)], some i, s.2.2 - 1) else s
def pickL (go : Nat → Nat → Bool) (L : Nat → Nat) (n : Nat) : Nat → List Int × Option Nat × Nat
  | 0 => ([], none, needL L n)
  | k + 1 => pick1 go L (pickL go L n k) k

theorem maxSel_rest (B : Nat → List Int) (L : Nat → Nat) (g : Nat → Bool) (lo : Nat) : ∀ m, (∀ k, lo ≤ k → k < lo + m → (B k).length = L k) → (restSel B g lo m).length + 1 = maxSel L g lo m
  | 0, _ => rfl
  | m + 1, h => by
    have ih := maxSel_rest B L g lo m (fun k h1 h2 => h k h1 (by omega))
    have hm := h (lo + m) (by omega) (by omega)
    rw [restSel, maxSel]
    by_cases hg : g (lo + m) = true
    · rw [if_pos hg]
      by_cases hl : (restSel B g lo m).length < (B (lo + m)).length
      · rw [if_pos ⟨hg, hl⟩]
        omega
      · rw [if_neg (fun h => hl h.2)]
        omega
    · rw [if_neg hg, if_neg (fun h => hg h.1)]
      exact ih
theorem long_best (go : Nat → Nat → Bool) (n : Nat) : ∀ d, d ≤ n → ∀ j, (bestL go n d j).length = longL go n d j
  | 0, _, j => rfl
  | d + 1, hd, j => by
    have ih := long_best go n d (by omega)
    rw [bestL, longL]
    by_cases hj : j = n - (d + 1)
    · rw [if_pos hj, if_pos hj, List.length_cons, maxSel_rest (bestL go n d) (longL go n d) _ _ d (fun k _ _ => ih k)]
    · rw [if_neg hj, if_neg hj]
      exact ih j
theorem best_keep (go : Nat → Nat → Bool) (n : Nat) : ∀ d e, d ≤ e → e ≤ n → ∀ j, n - d ≤ j → bestL go n e j = bestL go n d j := by
  intro d e h
  induction e with
  | zero =>
    intro _ j _
    have : d = 0 := by omega
    subst this
    rfl
  | succ e ih =>
    intro he j hj
    rcases Nat.lt_or_ge d (e + 1) with hlt | hge
    · rw [bestL, if_neg (by omega)]
      exact ih (by omega) (by omega) j hj
    · have : d = e + 1 := by omega
      subst this
      rfl
/-- What the full table holds: each place, and the longest that can follow. -/
theorem best_full (go : Nat → Nat → Bool) (n j : Nat) (hj : j < n) : bestL go n n j = (j : Int) :: restSel (bestL go n n) (go j) (j + 1) (n - j - 1) := by
  rw [best_keep go n (n - j) n (by omega) (Nat.le_refl _) j (by omega)]
  obtain ⟨d, hd⟩ : ∃ d, n - j = d + 1 := ⟨n - j - 1, by omega⟩
  rw [hd, bestL, if_pos (by omega), show n - (d + 1) = j by omega, show n - d = j + 1 by omega, show d + 1 - 1 = d by omega]
  congr 1
  have : ∀ m, m ≤ d → restSel (bestL go n d) (go j) (j + 1) m = restSel (bestL go n n) (go j) (j + 1) m := by
    intro m
    induction m with
    | zero => exact fun _ => rfl
    | succ m ih =>
      intro hm
      rw [restSel, restSel, ih (by omega), best_keep go n d n (by omega) (Nat.le_refl _) (j + 1 + m) (by omega)]
  exact this d (Nat.le_refl _)
theorem long_keep (go : Nat → Nat → Bool) (n : Nat) (j : Nat) (hj : j < n) : 1 ≤ longL go n n j := by
  rw [← long_best go n n (Nat.le_refl _) j, best_full go n j hj, List.length_cons]
  omega
/-- What the choice is: nothing where nothing is taken, else the first one of the longest. -/
theorem rest_spec (B : Nat → List Int) (g : Nat → Bool) (lo : Nat) : ∀ m, (∀ k, lo ≤ k → k < lo + m → 1 ≤ (B k).length) →
    (restSel B g lo m = [] ∧ ∀ k, lo ≤ k → k < lo + m → g k = false) ∨
    (∃ k, lo ≤ k ∧ k < lo + m ∧ g k = true ∧ restSel B g lo m = B k ∧ (∀ i, lo ≤ i → i < lo + m → g i = true → (B i).length ≤ (B k).length) ∧ ∀ i, lo ≤ i → i < k → g i = true → (B i).length < (B k).length)
  | 0, _ => .inl ⟨rfl, fun k h1 h2 => by omega⟩
  | m + 1, h => by
    have hm := h (lo + m) (by omega) (by omega)
    rw [restSel]
    rcases rest_spec B g lo m (fun k h1 h2 => h k h1 (by omega)) with ⟨e, hn⟩ | ⟨k, h1, h2, h3, h4, h5, h6⟩
    · by_cases hg : g (lo + m) = true
      · rw [if_pos ⟨hg, by rw [e]; simp only [List.length_nil]; omega⟩]
        refine .inr ⟨lo + m, by omega, by omega, hg, rfl, fun i i1 i2 i3 => ?_, fun i i1 i2 i3 => ?_⟩
        · rcases Nat.lt_or_ge i (lo + m) with hlt | hge
          · rw [hn i i1 hlt] at i3
            cases i3
          · have : i = lo + m := by omega
            subst this
            exact Nat.le_refl _
        · rw [hn i i1 (by omega)] at i3
          cases i3
      · rw [if_neg (fun h => hg h.1)]
        refine .inl ⟨e, fun k k1 k2 => ?_⟩
        rcases Nat.lt_or_ge k (lo + m) with hlt | hge
        · exact hn k k1 hlt
        · have : k = lo + m := by omega
          subst this
          simpa using hg
    · rw [h4]
      by_cases hc : g (lo + m) = true ∧ (B k).length < (B (lo + m)).length
      · rw [if_pos hc]
        refine .inr ⟨lo + m, by omega, by omega, hc.1, rfl, fun i i1 i2 i3 => ?_, fun i i1 i2 i3 => ?_⟩
        · rcases Nat.lt_or_ge i (lo + m) with hlt | hge
          · have := h5 i i1 hlt i3
            omega
          · have : i = lo + m := by omega
            subst this
            exact Nat.le_refl _
        · have := h5 i i1 (by omega) i3
          omega
      · rw [if_neg hc]
        refine .inr ⟨k, h1, by omega, h3, rfl, fun i i1 i2 i3 => ?_, h6⟩
        rcases Nat.lt_or_ge i (lo + m) with hlt | hge
        · exact h5 i i1 hlt i3
        · have : i = lo + m := by omega
          subst this
          rcases Nat.lt_or_ge (B k).length (B (lo + m)).length with h7 | h7
          · exact absurd ⟨i3, h7⟩ hc
          · exact h7
/-- The list told is that of the first place of the longest. -/
theorem out_spec (go : Nat → Nat → Bool) (n : Nat) : ∀ d, d ≤ n →
    (d = 0 ∧ outL go n d = []) ∨
    (∃ k, n - d ≤ k ∧ k < n ∧ outL go n d = bestL go n n k ∧ (∀ i, n - d ≤ i → i < n → (bestL go n n i).length ≤ (bestL go n n k).length) ∧ ∀ i, n - d ≤ i → i < k → (bestL go n n i).length < (bestL go n n k).length)
  | 0, _ => .inl ⟨rfl, rfl⟩
  | d + 1, hd => by
    have hb := best_keep go n (d + 1) n hd (Nat.le_refl _) (n - (d + 1)) (Nat.le_refl _)
    rw [outL, ← hb]
    rcases out_spec go n d (by omega) with ⟨e, e2⟩ | ⟨k, h1, h2, h3, h4, h5⟩
    · rw [e2, if_pos (by simp)]
      refine .inr ⟨n - (d + 1), by omega, by omega, rfl, fun i i1 i2 => ?_, fun i i1 i2 => by omega⟩
      have : i = n - (d + 1) := by omega
      rw [this]
      exact Nat.le_refl _
    · rw [h3]
      by_cases hc : (bestL go n n k).length ≤ (bestL go n n (n - (d + 1))).length
      · rw [if_pos hc]
        refine .inr ⟨n - (d + 1), by omega, by omega, rfl, fun i i1 i2 => ?_, fun i i1 i2 => by omega⟩
        rcases Nat.lt_or_ge i (n - d) with hlt | hge
        · have : i = n - (d + 1) := by omega
          rw [this]
          exact Nat.le_refl _
        · have := h4 i hge i2
          omega
      · rw [if_neg hc]
        refine .inr ⟨k, by omega, h2, rfl, fun i i1 i2 => ?_, fun i i1 i2 => ?_⟩
        · rcases Nat.lt_or_ge i (n - d) with hlt | hge
          · have : i = n - (d + 1) := by omega
            rw [this]
            omega
          · exact h4 i hge i2
        · rcases Nat.lt_or_ge i (n - d) with hlt | hge
          · have : i = n - (d + 1) := by omega
            rw [this]
            omega
          · exact h5 i hge i2
theorem need_spec (L : Nat → Nat) : ∀ n, (∀ i, i < n → L i ≤ needL L n) ∧ (n = 0 ∧ needL L n = 0 ∨ ∃ k, k < n ∧ L k = needL L n ∨ needL L n = 0)
  | 0 => ⟨fun i h => by omega, .inl ⟨rfl, rfl⟩⟩
  | n + 1 => by
    obtain ⟨h1, h2⟩ := need_spec L n
    rw [needL]
    refine ⟨fun i hi => ?_, .inr ?_⟩
    · rcases Nat.lt_or_ge i n with hlt | hge
      · have := h1 i hlt
        omega
      · have : i = n := by omega
        subst this
        omega
    · by_cases hm : needL L n ≤ L n
      · exact ⟨n, .inl ⟨by omega, by omega⟩⟩
      · rcases h2 with ⟨_, h2⟩ | ⟨k, ⟨hk, e⟩ | e⟩
        · omega
        · exact ⟨k, .inl ⟨by omega, by omega⟩⟩
        · omega
/-- The state of the pick is right at i: what is still to be told is the list of a place from i on, the first one that can be told. -/
def Right (go : Nat → Nat → Bool) (n i : Nat) (s : List Int × Option Nat × Nat) (all : List Int) : Prop :=
  (s.2.2 = 0 ∧ s.1 = all) ∨ ∃ k, i ≤ k ∧ k < n ∧ s.1 ++ bestL go n n k = all ∧ (bestL go n n k).length = s.2.2 ∧ (match s.2.1 with | none => true | some j => go j k) = true ∧
    ∀ m, i ≤ m → m < k → ¬ ((bestL go n n m).length = s.2.2 ∧ (match s.2.1 with | none => true | some j => go j m) = true)
theorem right_step (go : Nat → Nat → Bool) (n i : Nat) (hi : i < n) (s : List Int × Option Nat × Nat) (all : List Int) (h : Right go n i s all) : Right go n (i + 1) (pick1 go (longL go n n) s i) all := by
  have hL : ∀ j, longL go n n j = (bestL go n n j).length := fun j => (long_best go n n (Nat.le_refl _) j).symm
  have hpos : ∀ j, j < n → 1 ≤ (bestL go n n j).length := fun j hj => by rw [← hL]; exact long_keep go n j hj
  unfold pick1
  rcases h with ⟨h1, h2⟩ | ⟨k, h1, h2, h3, h4, h5, h6⟩
  · rw [if_neg (by omega)]
    exact .inl ⟨h1, h2⟩
  · rcases Nat.lt_or_ge i k with hlt | hge
    · rw [if_neg (fun ⟨_, h7, h8⟩ => h6 i (Nat.le_refl _) hlt ⟨by rw [← hL]; exact h7, h8⟩)]
      exact .inr ⟨k, by omega, h2, h3, h4, h5, fun m m1 m2 => h6 m (by omega) m2⟩
    · have : k = i := by omega
      subst this
      have hp := hpos k h2
      rw [if_pos ⟨by omega, by rw [hL]; exact h4, h5⟩]
      have hf := best_full go n k h2
      have hlen : (restSel (bestL go n n) (go k) (k + 1) (n - k - 1)).length = s.2.2 - 1 := by
        have : (bestL go n n k).length = (restSel (bestL go n n) (go k) (k + 1) (n - k - 1)).length + 1 := by rw [hf]; simp only [List.length_cons]
        omega
      rcases rest_spec (bestL go n n) (go k) (k + 1) (n - k - 1) (fun j j1 j2 => hpos j (by omega)) with ⟨e, hn⟩ | ⟨j, j1, j2, j3, j4, j5, j6⟩
      · refine .inl ⟨?_, ?_⟩
        · rw [e] at hlen
          exact hlen.symm
        · rw [← h3, hf, e]
      · refine .inr ⟨j, j1, by omega, ?_, ?_, j3, fun m m1 m2 ⟨m3, m4⟩ => ?_⟩
        · rw [← h3, hf, j4]
          simp
        · rw [← j4]
          exact hlen
        · have := j6 m m1 m2 m4
          rw [← j4, hlen] at this
          simp only at m3
          omega
theorem most_same (go : Nat → Nat → Bool) (n : Nat) : (pickL go (longL go n n) n n).1 = outL go n n := by
  have hL : ∀ j, longL go n n j = (bestL go n n j).length := fun j => (long_best go n n (Nat.le_refl _) j).symm
  have key : ∀ i, i ≤ n → Right go n i (pickL go (longL go n n) n i) (outL go n n) := by
    intro i
    induction i with
    | zero =>
      intro _
      obtain ⟨n1, n2⟩ := need_spec (longL go n n) n
      rcases out_spec go n n (Nat.le_refl _) with ⟨e, e2⟩ | ⟨k, h1, h2, h3, h4, h5⟩
      · subst e
        exact .inl ⟨rfl, e2.symm⟩
      · have hk : needL (longL go n n) n = (bestL go n n k).length := by
          apply Nat.le_antisymm
          · rcases n2 with ⟨e, _⟩ | ⟨m, ⟨hm, e⟩ | e⟩
            · omega
            · rw [← e, hL]
              exact h4 m (by omega) hm
            · omega
          · rw [← hL]
            exact n1 k h2
        refine .inr ⟨k, Nat.zero_le _, h2, ?_, hk.symm, rfl, fun m m1 m2 ⟨m3, _⟩ => ?_⟩
        · rw [h3]
          rfl
        · have := h5 m (by omega) m2
          have hk' : (pickL go (longL go n n) n 0).2.2 = needL (longL go n n) n := rfl
          omega
    | succ i ih =>
      intro hi
      exact right_step go n i (by omega) _ _ (ih (by omega))
  rcases key n (Nat.le_refl _) with ⟨_, h⟩ | ⟨k, h1, h2, _⟩
  · exact h
  · omega
theorem best_length (go : Nat → Nat → Bool) (n : Nat) : ∀ j, j < n → (bestL go n n j).length ≤ n - j := by
  have : ∀ d, ∀ j, j < n → n - j = d → (bestL go n n j).length ≤ n - j := by
    intro d
    induction d using Nat.strongRecOn with
    | ind d ih =>
      intro j hj hd
      rw [best_full go n j hj, List.length_cons]
      rcases rest_spec (bestL go n n) (go j) (j + 1) (n - j - 1) (fun i i1 i2 => by rw [long_best go n n (Nat.le_refl _)]; exact long_keep go n i (by omega)) with ⟨e, _⟩ | ⟨k, k1, k2, k3, k4, _⟩
      · rw [e]
        simp only [List.length_nil]
        omega
      · rw [k4]
        have := ih (n - k) (by omega) k (by omega) rfl
        omega
  exact fun j hj => this _ j hj rfl
theorem pick_stop (go : Nat → Nat → Bool) (L : Nat → Nat) (n k : Nat) (h : (pickL go L n k).2.2 = 0) : ∀ m, pickL go L n (k + m) = pickL go L n k
  | 0 => rfl
  | m + 1 => by
    rw [← Nat.add_assoc, pickL, pick_stop go L n k h m]
    unfold pick1
    rw [if_neg (by omega)]
theorem ite_or {α : Type} (c : Prop) [Decidable c] (a b : α) : (if c then a else b) = a ∨ (if c then a else b) = b := by
  by_cases h : c
  · exact .inl (if_pos h)
  · exact .inr (if_neg h)
theorem pick1_or (go : Nat → Nat → Bool) (L : Nat → Nat) (s : List Int × Option Nat × Nat) (i : Nat) : pick1 go L s i = (s.1 ++ [(i : Int)], some i, s.2.2 - 1) ∨ pick1 go L s i = s := ite_or _ _ _
theorem pick_length (go : Nat → Nat → Bool) (L : Nat → Nat) (n : Nat) : ∀ k, (pickL go L n k).1.length ≤ k
  | 0 => Nat.le_refl _
  | k + 1 => by
    have := pick_length go L n k
    rw [pickL]
    rcases pick1_or go L (pickL go L n k) k with h | h
    · rw [h, List.length_append, List.length_singleton]; omega
    · rw [h]; omega
theorem pick_last (go : Nat → Nat → Bool) (L : Nat → Nat) (n : Nat) : ∀ k, ∀ j, (pickL go L n k).2.1 = some j → j < k
  | 0, j, h => by cases h
  | k + 1, j, h => by
    rw [pickL] at h
    rcases pick1_or go L (pickL go L n k) k with e | e
    · rw [e] at h
      injection h with h
      omega
    · rw [e] at h
      have := pick_last go L n k j h
      omega
theorem pick_need (go : Nat → Nat → Bool) (L : Nat → Nat) (n : Nat) : ∀ k, (pickL go L n k).2.2 ≤ needL L n
  | 0 => Nat.le_refl _
  | k + 1 => by
    have := pick_need go L n k
    rw [pickL]
    rcases pick1_or go L (pickL go L n k) k with h | h
    · rw [h]
      simp only
      omega
    · rw [h]
      exact this
theorem long_le (go : Nat → Nat → Bool) (n : Nat) : ∀ d, d ≤ n → ∀ j, longL go n d j ≤ n := by
  intro d hd j
  by_cases hj : n - d ≤ j
  · by_cases hjn : j < n
    · rw [← long_best go n d hd, ← best_keep go n d n hd (Nat.le_refl _) j hj]
      exact Nat.le_trans (best_length go n j hjn) (by omega)
    · have : ∀ d, d ≤ n → longL go n d j = 0 := by
        intro d
        induction d with
        | zero => intro _; rfl
        | succ d ih => intro hd; rw [longL, if_neg (by omega), ih (by omega)]
      rw [this d hd]
      omega
  · have : ∀ d, d ≤ n → j < n - d → longL go n d j = 0 := by
      intro d
      induction d with
      | zero => intro _ _; rfl
      | succ d ih => intro hd hj; rw [longL, if_neg (by omega), ih (by omega) (by omega)]
    rw [this d hd (by omega)]
    omega
theorem maxSel_le (L : Nat → Nat) (g : Nat → Bool) (lo n : Nat) (h : ∀ j, L j ≤ n) : ∀ m, maxSel L g lo m ≤ n + 1
  | 0 => by simp [maxSel]
  | m + 1 => by
    have := maxSel_le L g lo n h m
    have := h (lo + m)
    rw [maxSel]
    split <;> omega
theorem need_le (L : Nat → Nat) (n : Nat) (h : ∀ j, L j ≤ n) : ∀ k, needL L k ≤ n
  | 0 => by simp [needL]
  | k + 1 => by
    have := need_le L n h k
    have := h k
    rw [needL]
    omega
end Go.Proofs.Yticfecncdpdanaa.Most
/- The most scans that can be right: what is told is a chain, and none is longer. -/
set_option linter.unusedVariables false
set_option linter.unusedSimpArgs false
namespace Go.Proofs.Yticfecncdpdanaa.Most
def ChainN (go : Nat → Nat → Bool) : List Nat → Prop
  | a :: b :: r => a < b ∧ go a b = true ∧ ChainN go (b :: r)
  | _ => True
def castN (l : List Nat) : List Int := l.map fun (x : Nat) => (x : Int)
theorem rest_in (B : Nat → List Int) (g : Nat → Bool) (lo : Nat) : ∀ m, restSel B g lo m = [] ∨ ∃ k, lo ≤ k ∧ k < lo + m ∧ g k = true ∧ restSel B g lo m = B k
  | 0 => .inl rfl
  | m + 1 => by
    rw [restSel]
    split
    · rename_i h
      exact .inr ⟨lo + m, by omega, by omega, h.1, rfl⟩
    · rcases rest_in B g lo m with h | ⟨k, h1, h2, h3, h4⟩
      · exact .inl h
      · exact .inr ⟨k, h1, by omega, h3, h4⟩
theorem rest_max (B : Nat → List Int) (g : Nat → Bool) (lo : Nat) : ∀ m k, lo ≤ k → k < lo + m → g k = true → (B k).length ≤ (restSel B g lo m).length
  | 0, k, h1, h2, _ => by omega
  | m + 1, k, h1, h2, h3 => by
    rw [restSel]
    by_cases e : k = lo + m
    · subst e
      split
      · exact Nat.le_refl _
      · rename_i h
        have : ¬ (restSel B g lo m).length < (B (lo + m)).length := fun q => h ⟨h3, q⟩
        omega
    · have ih := rest_max B g lo m k h1 (by omega) h3
      split
      · rename_i h; omega
      · exact ih
/-- What the table holds: a chain from j on. -/
theorem best_chain (go : Nat → Nat → Bool) (n : Nat) : ∀ d, d ≤ n → ∀ j, n - d ≤ j → j < n → ∃ r, bestL go n d j = castN (j :: r) ∧ ChainN go (j :: r) ∧ ∀ x ∈ j :: r, x < n := by
  intro d
  induction d with
  | zero => intro _ j h1 h2; omega
  | succ d ih =>
    intro hd j h1 h2
    rw [bestL]
    by_cases e : j = n - (d + 1)
    · rw [if_pos e]
      rcases rest_in (bestL go n d) (go (n - (d + 1))) (n - d) d with h | ⟨k, k1, k2, k3, k4⟩
      · rw [h]
        exact ⟨[], by rw [e]; rfl, trivial, fun x hx => by rw [List.mem_singleton.1 hx]; exact h2⟩
      · obtain ⟨r, g1, g2, g3⟩ := ih (by omega) k k1 (by omega)
        rw [k4, g1]
        refine ⟨k :: r, by rw [e]; rfl, ⟨by omega, by rw [e]; exact k3, g2⟩, fun x hx => ?_⟩
        rcases List.mem_cons.1 hx with rfl | hx
        · exact h2
        · exact g3 x hx
    · rw [if_neg e]
      exact ih (by omega) j (by omega) h2
/-- No chain from j on is longer. -/
theorem best_max (go : Nat → Nat → Bool) (n : Nat) : ∀ d, d ≤ n → ∀ j r, n - d ≤ j → ChainN go (j :: r) → (∀ x ∈ j :: r, x < n) → (j :: r).length ≤ (bestL go n d j).length := by
  intro d
  induction d with
  | zero =>
    intro _ j r h1 _ h3
    have := h3 j (by simp)
    omega
  | succ d ih =>
    intro hd j r h1 h2 h3
    rw [bestL]
    by_cases e : j = n - (d + 1)
    · rw [if_pos e]
      cases r with
      | nil => simp
      | cons b r =>
        have hb := h3 b (by simp)
        have hjb := h2.1
        have h4 := ih (by omega) b r (by omega) h2.2.2 (fun x hx => h3 x (List.mem_cons_of_mem _ hx))
        have h5 := rest_max (bestL go n d) (go (n - (d + 1))) (n - d) d b (by omega) (by omega) (by rw [← e]; exact h2.2.1)
        simp only [List.length_cons] at h4 ⊢
        omega
    · rw [if_neg e]
      exact ih (by omega) j r (by omega) h2 h3
/-- What is told. -/
theorem out_facts (go : Nat → Nat → Bool) (n : Nat) : ∀ d, d ≤ n → (∃ c, outL go n d = castN c ∧ ChainN go c ∧ ∀ x ∈ c, x < n) ∧ ∀ j r, n - d ≤ j → ChainN go (j :: r) → (∀ x ∈ j :: r, x < n) → (j :: r).length ≤ (outL go n d).length := by
  intro d
  induction d with
  | zero =>
    intro _
    refine ⟨⟨[], rfl, trivial, fun x hx => absurd hx List.not_mem_nil⟩, fun j r h1 _ h3 => ?_⟩
    have := h3 j (by simp)
    omega
  | succ d ih =>
    intro hd
    obtain ⟨⟨c, c1, c2, c3⟩, hm⟩ := ih (by omega)
    rw [outL]
    have hmax := best_max go n (d + 1) hd
    split
    · rename_i h
      obtain ⟨r, g1, g2, g3⟩ := best_chain go n (d + 1) hd (n - (d + 1)) (Nat.le_refl _) (by omega)
      refine ⟨⟨(n - (d + 1)) :: r, g1, g2, g3⟩, fun j q h1 h2 h3 => ?_⟩
      by_cases e : j = n - (d + 1)
      · subst e; exact hmax _ q (Nat.le_refl _) h2 h3
      · exact Nat.le_trans (hm j q (by omega) h2 h3) h
    · rename_i h
      refine ⟨⟨c, c1, c2, c3⟩, fun j q h1 h2 h3 => ?_⟩
      by_cases e : j = n - (d + 1)
      · subst e
        have := hmax _ q (Nat.le_refl _) h2 h3
        omega
      · exact hm j q (by omega) h2 h3
theorem chain_out (go : Nat → Nat → Bool) (n : Nat) : ∃ c, outL go n n = castN c ∧ ChainN go c ∧ (∀ x ∈ c, x < n) ∧ ∀ q, ChainN go q → (∀ x ∈ q, x < n) → q.length ≤ c.length := by
  obtain ⟨⟨c, c1, c2, c3⟩, hm⟩ := out_facts go n n (Nat.le_refl _)
  refine ⟨c, c1, c2, c3, fun q h1 h2 => ?_⟩
  have hl : (outL go n n).length = c.length := by rw [c1]; simp [castN]
  cases q with
  | nil => simp
  | cons j r =>
    rw [← hl]
    exact hm j r (by omega) h1 h2
theorem ChainN.gt {go : Nat → Nat → Bool} : ∀ {a : Nat} {r : List Nat}, ChainN go (a :: r) → ∀ x ∈ r, a < x
  | a, [], _, x, hx => absurd hx List.not_mem_nil
  | a, b :: r, h, x, hx => by
    rcases List.mem_cons.1 hx with rfl | hx
    · exact h.1
    · exact Nat.lt_trans h.1 (ChainN.gt h.2.2 x hx)
theorem ChainN.tail {go : Nat → Nat → Bool} {a : Nat} {r : List Nat} (h : ChainN go (a :: r)) : ChainN go r := by
  cases r with
  | nil => trivial
  | cons b r => exact h.2.2
/-- A chain that is as long as there are places is all of them. -/
theorem rises_full (go : Nat → Nat → Bool) : ∀ (c : List Nat) (lo n : Nat), lo ≤ n → ChainN go c → (∀ x ∈ c, lo ≤ x ∧ x < n) → c.length + lo ≤ n ∧ (c.length + lo = n → c = List.range' lo c.length)
  | [], lo, n, hl, _, h => ⟨by simpa using hl, fun _ => rfl⟩
  | a :: r, lo, n, hl, hc, h => by
    have ha := h a (by simp)
    have hr := rises_full go r (a + 1) n (by omega) hc.tail (fun x hx => ⟨hc.gt x hx, (h x (List.mem_cons_of_mem _ hx)).2⟩)
    refine ⟨by simp only [List.length_cons]; omega, fun e => ?_⟩
    simp only [List.length_cons] at e
    have hal : a = lo := by omega
    subst hal
    rw [List.length_cons, List.range'_succ, ← hr.2 (by omega)]
/-- All places in a row are a chain just where each leads to the next one. -/
theorem chain_range (go : Nat → Nat → Bool) : ∀ (m lo : Nat), ChainN go (List.range' lo m) ↔ ∀ i, lo ≤ i → i + 1 < lo + m → go i (i + 1) = true
  | 0, lo => ⟨fun _ i h1 h2 => by omega, fun _ => trivial⟩
  | 1, lo => ⟨fun _ i h1 h2 => by omega, fun _ => trivial⟩
  | m + 2, lo => by
    have ih := chain_range go (m + 1) (lo + 1)
    rw [List.range'_succ, List.range'_succ]
    rw [List.range'_succ] at ih
    constructor
    · intro h i h1 h2
      by_cases e : i = lo
      · subst e; exact h.2.1
      · exact ih.1 h.2.2 i (by omega) (by omega)
    · intro h
      exact ⟨by omega, h lo (Nat.le_refl _) (by omega), ih.2 (fun i h1 h2 => h i (by omega) (by omega))⟩
end Go.Proofs.Yticfecncdpdanaa.Most
