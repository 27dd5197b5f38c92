/- Loops of a law's helpers, over lists alone: copying, comparing, marking, looking at marks. Lists of at most 1048576 elements. -/
import Derived.Test.YtlefddghiiigeaaWMore
set_option linter.unusedVariables false
namespace Go.Proofs.Ytlefddghiiigeaa.Loops
open Go.RowKit Go.Proofs.YtlefddghiiigeaaW.PrintWords

theorem wrap_mid {i : Int} (h0 : -4611686018427387904 ≤ i) (h1 : i ≤ 4611686018427387904) : wrap64 i = i := by
  unfold wrap64
  omega
theorem getD_at {α : Type} (l : List α) (z : α) (i : Nat) (h : i < l.length) : l.getD i z = l[i] := by
  rw [List.getD_eq_getElem?_getD, List.getElem?_eq_getElem h]
  rfl
theorem drop_at {α : Type} (l : List α) (z : α) (i : Nat) (h : i < l.length) : l.drop i = l.getD i z :: l.drop (i + 1) := by
  rw [getD_at l z i h]
  exact List.drop_eq_getElem_cons h
theorem take_set {α : Type} (l : List α) (v : α) (i : Nat) (h : i < l.length) : (l.set i v).take (i + 1) = l.take i ++ [v] := by
  apply List.ext_getElem?
  intro j
  rcases Nat.lt_trichotomy j i with hj | hj | hj
  · rw [List.getElem?_take_of_lt (by omega), List.getElem?_set_ne (by omega), List.getElem?_append_left (by rw [List.length_take]; omega), List.getElem?_take_of_lt hj]
  · subst hj
    rw [List.getElem?_take_of_lt (by omega), List.getElem?_set_self h, List.getElem?_append_right (by rw [List.length_take]; omega)]
    simp [List.length_take, Nat.min_eq_left (Nat.le_of_lt h)]
  · rw [List.getElem?_take_eq_none (by omega), List.getElem?_eq_none]
    simp [List.length_take]
    omega

/-- for i := 0; i < len(l); i++ { xs[i] = c(l[i]) } -/
theorem fill_loop {α β : Type} (g : Nat → List α → List β → Int → Option (List β)) (c : α → β) (z : α)
    (step : ∀ k l xs i, g (k + 1) l xs i = if i < (l.length : Int) then (if 0 ≤ i then (if i < (xs.length : Int) then g k l (xs.set i.toNat (c (l.getD i.toNat z))) (wrap64 (i + 1)) else none) else none) else some xs)
    (l : List α) (hl : l.length ≤ 1048576) : ∀ (d k : Nat) (xs : List β) (i : Nat), l.length - i = d → i ≤ l.length → d < k → xs.length = l.length → g k l xs i = some (xs.take i ++ (l.drop i).map c) := by
  intro d
  induction d with
  | zero =>
    intro k xs i hd hi hk hx
    obtain ⟨k, rfl⟩ : ∃ m, k = m + 1 := ⟨k - 1, by omega⟩
    rw [step, if_neg (by omega)]
    have e : i = l.length := by omega
    rw [e, List.drop_length, ← hx, List.take_length]
    simp
  | succ d ih =>
    intro k xs i hd hi hk hx
    obtain ⟨k, rfl⟩ : ∃ m, k = m + 1 := ⟨k - 1, by omega⟩
    rw [step, if_pos (by omega), if_pos (by omega), if_pos (by omega), wrap_mid (by omega) (by omega)]
    have e : ((i : Int) + 1) = ((i + 1 : Nat) : Int) := by omega
    rw [e, ih k _ (i + 1) (by omega) (by omega) (by omega) (by rw [List.length_set]; exact hx)]
    simp only [Int.toNat_natCast]
    rw [take_set _ _ _ (by omega), drop_at l z i (by omega)]
    simp
theorem fill_all {α β : Type} (g : Nat → List α → List β → Int → Option (List β)) (c : α → β) (z : α)
    (step : ∀ k l xs i, g (k + 1) l xs i = if i < (l.length : Int) then (if 0 ≤ i then (if i < (xs.length : Int) then g k l (xs.set i.toNat (c (l.getD i.toNat z))) (wrap64 (i + 1)) else none) else none) else some xs)
    (l : List α) (hl : l.length ≤ 1048576) (k : Nat) (hk : l.length < k) (xs : List β) (hx : xs.length = l.length) : g k l xs 0 = some (l.map c) := by
  have := fill_loop g c z step l hl l.length k xs 0 (by omega) (by omega) hk hx
  simpa using this

/-- for i := 0; i < len(l); i++ { if !q(l[i], m[i]) { return false } }; return true -/
theorem same_loop {α : Type} [DecidableEq α] (g : Nat → List α → List α → Int → Option Bool) (z : α)
    (step : ∀ k l m i, 0 ≤ i → i < (l.length : Int) → l.length = m.length → g (k + 1) l m i = if l.getD i.toNat z = m.getD i.toNat z then g k l m (wrap64 (i + 1)) else some false)
    (last : ∀ k l m i, (l.length : Int) ≤ i → g (k + 1) l m i = some true)
    (l m : List α) (hm : l.length = m.length) (hl : l.length ≤ 1048576) : ∀ (d k : Nat) (i : Nat), l.length - i = d → i ≤ l.length → d < k → g k l m i = some (decide (l.drop i = m.drop i)) := by
  intro d
  induction d with
  | zero =>
    intro k i hd hi hk
    obtain ⟨k, rfl⟩ : ∃ n, k = n + 1 := ⟨k - 1, by omega⟩
    rw [last _ _ _ _ (by omega), List.drop_of_length_le (by omega), List.drop_of_length_le (by omega)]
    simp
  | succ d ih =>
    intro k i hd hi hk
    obtain ⟨k, rfl⟩ : ∃ n, k = n + 1 := ⟨k - 1, by omega⟩
    rw [step k l m i (by omega) (by omega) hm, wrap_mid (by omega) (by omega)]
    have e : ((i : Int) + 1) = ((i + 1 : Nat) : Int) := by omega
    rw [e, ih k (i + 1) (by omega) (by omega) (by omega), drop_at l z i (by omega), drop_at m z i (by omega)]
    simp only [Int.toNat_natCast, List.cons.injEq]
    by_cases h : l.getD i z = m.getD i z
    · rw [if_pos h]
      simp only [h, true_and]
    · rw [if_neg h]
      simp only [h, false_and, decide_false]
theorem same_all {α : Type} [DecidableEq α] (g : Nat → List α → List α → Int → Option Bool) (z : α)
    (step : ∀ k l m i, 0 ≤ i → i < (l.length : Int) → l.length = m.length → g (k + 1) l m i = if l.getD i.toNat z = m.getD i.toNat z then g k l m (wrap64 (i + 1)) else some false)
    (last : ∀ k l m i, (l.length : Int) ≤ i → g (k + 1) l m i = some true)
    (l m : List α) (hm : l.length = m.length) (hl : l.length ≤ 1048576) (k : Nat) (hk : l.length < k) : g k l m 0 = some (decide (l = m)) := by
  have := same_loop g z step last l m hm hl l.length k 0 (by omega) (by omega) hk
  simpa using this

/-- for i := 0; i < len(l); i++ { l[i] = ..; k += s }; return k -/
theorem mark_loop {α : Type} (g : Nat → List α → Int → Int → Option (Int × List α)) (s : Nat) (hs : s ≤ 1048576)
    (step : ∀ k l a i, 0 ≤ i → i < (l.length : Int) → 0 ≤ a → a ≤ 2305843009213693952 → ∃ l', l'.length = l.length ∧ g (k + 1) l a i = g k l' (a + s) (wrap64 (i + 1)))
    (last : ∀ k l a i, (l.length : Int) ≤ i → g (k + 1) l a i = some (a, l)) : ∀ (d k : Nat) (l : List α) (a : Int) (i : Nat), l.length ≤ 1048576 → l.length - i = d → i ≤ l.length → d < k → 0 ≤ a → a + s * d ≤ 2305843009213693952 →
    ∃ l', g k l a i = some (a + s * d, l') := by
  intro d
  induction d with
  | zero =>
    intro k l a i hl hd hi hk ha hb
    obtain ⟨k, rfl⟩ : ∃ n, k = n + 1 := ⟨k - 1, by omega⟩
    exact ⟨l, by rw [last _ _ _ _ (by omega)]; simp⟩
  | succ d ih =>
    intro k l a i hl hd hi hk ha hb
    obtain ⟨k, rfl⟩ : ∃ n, k = n + 1 := ⟨k - 1, by omega⟩
    have hm : (s : Int) * (d + 1 : Nat) = s * d + s := by rw [Int.natCast_add, Int.mul_add]; simp
    have h0 : (0 : Int) ≤ s * d := Int.mul_nonneg (by omega) (by omega)
    obtain ⟨l', h1, h2⟩ := step k l a i (by omega) (by omega) ha (by omega)
    rw [h2, wrap_mid (by omega) (by omega), show ((i : Int) + 1) = ((i + 1 : Nat) : Int) by omega]
    obtain ⟨m, hm'⟩ := ih k l' (a + s) (i + 1) (by omega) (by omega) (by omega) (by omega) (by omega) (by omega)
    exact ⟨m, by rw [hm', hm]; congr 2; omega⟩

/-- The marks a, a + 1, .. -/
def marks (a : Int) (n : Nat) : List Int := (List.range n).map fun (j : Nat) => a + (j : Int)
theorem marks_length (a : Int) (n : Nat) : (marks a n).length = n := by simp [marks]
theorem marks_get (a : Int) (n i : Nat) (h : i < n) : (marks a n).getD i 0 = a + i := by
  rw [getD_at _ _ _ (by rw [marks_length]; exact h)]
  simp [marks]
theorem marks_cons (a : Int) (n : Nat) : marks a (n + 1) = a :: marks (a + 1) n := by
  apply List.ext_getElem?
  intro i
  cases i with
  | zero => simp [marks]
  | succ i =>
    simp only [marks, List.getElem?_cons_succ, List.getElem?_map]
    by_cases h : i < n
    · rw [List.getElem?_range (by omega), List.getElem?_range h]
      simp
      omega
    · rw [List.getElem?_eq_none (by simp; omega), List.getElem?_eq_none (by simp; omega)]
      rfl
theorem mark64_loop (g : Nat → List Int → Int → Int → Option (Int × List Int))
    (step : ∀ k l a i, g (k + 1) l a i = if i < (l.length : Int) then (if 0 ≤ i then g k (l.set i.toNat a) (wrap64 (a + 1)) (wrap64 (i + 1)) else none) else some (a, l)) :
    ∀ (d k : Nat) (l : List Int) (a : Int) (i : Nat), l.length ≤ 1048576 → l.length - i = d → i ≤ l.length → d < k → 0 ≤ a → a + d ≤ 2305843009213693952 → g k l a i = some (a + d, l.take i ++ marks a d) := by
  intro d
  induction d with
  | zero =>
    intro k l a i hl hd hi hk ha hb
    obtain ⟨k, rfl⟩ : ∃ n, k = n + 1 := ⟨k - 1, by omega⟩
    rw [step, if_neg (by omega), List.take_of_length_le (by omega)]
    simp [marks]
  | succ d ih =>
    intro k l a i hl hd hi hk ha hb
    obtain ⟨k, rfl⟩ : ∃ n, k = n + 1 := ⟨k - 1, by omega⟩
    rw [step, if_pos (by omega), if_pos (by omega), wrap_mid (by omega) (by omega), wrap_mid (by omega) (by omega), show ((i : Int) + 1) = ((i + 1 : Nat) : Int) by omega,
      ih k _ (a + 1) (i + 1) (by rw [List.length_set]; exact hl) (by rw [List.length_set]; omega) (by rw [List.length_set]; omega) (by omega) (by omega) (by omega)]
    simp only [Int.toNat_natCast]
    rw [take_set _ _ _ (by omega), marks_cons]
    simp
    omega
theorem mark64_all (g : Nat → List Int → Int → Int → Option (Int × List Int))
    (step : ∀ k l a i, g (k + 1) l a i = if i < (l.length : Int) then (if 0 ≤ i then g k (l.set i.toNat a) (wrap64 (a + 1)) (wrap64 (i + 1)) else none) else some (a, l))
    (l : List Int) (hl : l.length ≤ 1048576) (k : Nat) (hk : l.length < k) (a : Int) (ha : 0 ≤ a) (hb : a ≤ 1048576 * 1048576) : g k l a 0 = some (a + l.length, marks a l.length) := by
  have := mark64_loop g step l.length k l a 0 hl (by omega) (by omega) hk ha (by omega)
  simpa using this
theorem held64_loop (g : Nat → List Int → Int → Int → Option Int)
    (step : ∀ k l a i, g (k + 1) l a i = if i < (l.length : Int) then (if 0 ≤ i then (if rd l i = a then g k l (wrap64 (a + 1)) (wrap64 (i + 1)) else some (-1)) else none) else some a) (n : Nat) (hn : n ≤ 1048576) (b : Int) (hb0 : 0 ≤ b) (hb : b ≤ 1048576 * 1048576) :
    ∀ (d k i : Nat), n - i = d → i ≤ n → d < k → g k (marks b n) (b + i) i = some (b + n) := by
  intro d
  induction d with
  | zero =>
    intro k i hd hi hk
    obtain ⟨k, rfl⟩ : ∃ n, k = n + 1 := ⟨k - 1, by omega⟩
    rw [step, if_neg (by rw [marks_length]; omega), show i = n by omega]
  | succ d ih =>
    intro k i hd hi hk
    obtain ⟨k, rfl⟩ : ∃ n, k = n + 1 := ⟨k - 1, by omega⟩
    rw [step, if_pos (by rw [marks_length]; omega), if_pos (by omega), if_pos (by unfold rd; rw [Int.toNat_natCast, marks_get _ _ _ (by omega)]), wrap_mid (by omega) (by omega), wrap_mid (by omega) (by omega),
      show ((i : Int) + 1) = ((i + 1 : Nat) : Int) by omega, show b + (i : Int) + 1 = b + ((i + 1 : Nat) : Int) by omega]
    exact ih k (i + 1) (by omega) (by omega) (by omega)
theorem held64_all (g : Nat → List Int → Int → Int → Option Int)
    (step : ∀ k l a i, g (k + 1) l a i = if i < (l.length : Int) then (if 0 ≤ i then (if rd l i = a then g k l (wrap64 (a + 1)) (wrap64 (i + 1)) else some (-1)) else none) else some a) (n : Nat) (hn : n ≤ 1048576) (b : Int) (hb0 : 0 ≤ b) (hb : b ≤ 1048576 * 1048576)
    (k : Nat) (hk : n < k) : g k (marks b n) b 0 = some (b + n) := by
  have := held64_loop g step n hn b hb0 hb n k 0 (by omega) (by omega) hk
  simpa using this
end Go.Proofs.Ytlefddghiiigeaa.Loops
/- Loops over lists, printed: one that looks at each element; one that gathers. Lists of at most 1048576 elements. -/
set_option linter.unusedVariables false
namespace Go.Proofs.Ytlefddghiiigeaa.Loops
open Go.RowKit Go.Proofs.YtlefddghiiigeaaW.PrintWords
theorem all_loop {α β : Type} (g : Nat → Int → Option β) (p : α → Bool) (z : α) (l : List α) (no fin : Option β) (K : Nat)
    (step : ∀ k i : Nat, i < l.length → K ≤ k → g (k + 1) (i : Int) = if p (l.getD i z) = true then g k ((i + 1 : Nat) : Int) else no) (last : ∀ k, K ≤ k → g (k + 1) (l.length : Int) = fin) :
    ∀ (d k i : Nat), l.length - i = d → i ≤ l.length → d + K < k → g k (i : Int) = if (l.drop i).all p = true then fin else no := by
  intro d
  induction d with
  | zero =>
    intro k i hd hi hk
    obtain ⟨k, rfl⟩ : ∃ m, k = m + 1 := ⟨k - 1, by omega⟩
    have e : i = l.length := by omega
    subst e
    rw [last k (by omega), List.drop_length]
    simp
  | succ d ih =>
    intro k i hd hi hk
    obtain ⟨k, rfl⟩ : ∃ m, k = m + 1 := ⟨k - 1, by omega⟩
    rw [step k i (by omega) (by omega), ih k (i + 1) (by omega) (by omega) (by omega), drop_at l z i (by omega), List.all_cons]
    cases p (l.getD i z) <;> simp
theorem all_from {α β : Type} (g : Nat → Int → Option β) (p : α → Bool) (z : α) (l : List α) (no fin : Option β) (K : Nat)
    (step : ∀ k i : Nat, i < l.length → K ≤ k → g (k + 1) (i : Int) = if p (l.getD i z) = true then g k ((i + 1 : Nat) : Int) else no) (last : ∀ k, K ≤ k → g (k + 1) (l.length : Int) = fin) (k : Nat) (hk : l.length + K < k) :
    g k 0 = if l.all p = true then fin else no := by
  have := all_loop g p z l no fin K step last l.length k 0 (by omega) (by omega) hk
  simpa using this
theorem stop_loop {α β : Type} (g : Nat → Int → Option β) (p : α → Bool) (z : α) (l : List α) (no : Option β)
    (step : ∀ k i : Nat, i < l.length → g (k + 1) (i : Int) = if p (l.getD i z) = true then g k ((i + 1 : Nat) : Int) else no) :
    ∀ (d k i : Nat), l.length - i = d → d < k → (l.drop i).all p = false → g k (i : Int) = no := by
  intro d
  induction d with
  | zero =>
    intro k i hd hk h
    rw [List.drop_of_length_le (by omega)] at h
    cases h
  | succ d ih =>
    intro k i hd hk h
    obtain ⟨k, rfl⟩ : ∃ m, k = m + 1 := ⟨k - 1, by omega⟩
    rw [drop_at l z i (by omega), List.all_cons] at h
    rw [step k i (by omega)]
    by_cases hp : p (l.getD i z) = true
    · rw [if_pos hp]
      rw [hp, Bool.true_and] at h
      exact ih k (i + 1) (by omega) (by omega) h
    · rw [if_neg hp]
theorem stop_from {α β : Type} (g : Nat → Int → Option β) (p : α → Bool) (z : α) (l : List α) (no : Option β)
    (step : ∀ k i : Nat, i < l.length → g (k + 1) (i : Int) = if p (l.getD i z) = true then g k ((i + 1 : Nat) : Int) else no) (k : Nat) (hk : l.length < k) (h : l.all p = false) : g k 0 = no :=
  stop_loop g p z l no step l.length k 0 (by omega) hk (by simpa using h)
theorem pass_loop {α β : Type} (g : Nat → Int → Option β) (p : α → Bool) (z : α) (l : List α) (no : Option β)
    (step : ∀ k i : Nat, i < l.length → g (k + 1) (i : Int) = if p (l.getD i z) = true then g k ((i + 1 : Nat) : Int) else no) (h : l.all p = true) :
    ∀ (d k i : Nat), l.length - i = d → i ≤ l.length → g (k + d) (i : Int) = g k (l.length : Int) := by
  intro d
  induction d with
  | zero =>
    intro k i hd hi
    have : i = l.length := by omega
    rw [this]
    rfl
  | succ d ih =>
    intro k i hd hi
    have hp : p (l.getD i z) = true := by
      rw [getD_at l z i (by omega)]
      exact List.all_eq_true.1 h _ (List.getElem_mem _)
    rw [show k + (d + 1) = (k + d) + 1 by omega, step _ i (by omega), if_pos hp]
    exact ih k (i + 1) (by omega) (by omega)
theorem pass_from {α β : Type} (g : Nat → Int → Option β) (p : α → Bool) (z : α) (l : List α) (no : Option β)
    (step : ∀ k i : Nat, i < l.length → g (k + 1) (i : Int) = if p (l.getD i z) = true then g k ((i + 1 : Nat) : Int) else no) (h : l.all p = true) (k : Nat) : g (k + l.length) 0 = g k (l.length : Int) :=
  pass_loop g p z l no step h l.length k 0 (by omega) (by omega)
theorem fold_loop {α σ β : Type} (g : Nat → σ → Int → Option β) (f : σ → α → σ) (z : α) (l : List α) (P : Nat → σ → Prop) (K : Nat) (res : σ → Option β)
    (step : ∀ (k : Nat) (s : σ) (i : Nat), i < l.length → P i s → g (k + 1) s (i : Int) = g k (f s (l.getD i z)) ((i + 1 : Nat) : Int))
    (inv : ∀ (s : σ) (i : Nat), i < l.length → P i s → P (i + 1) (f s (l.getD i z)))
    (last : ∀ (k : Nat) (s : σ), K ≤ k → P l.length s → g (k + 1) s (l.length : Int) = res s) :
    ∀ (d k : Nat) (s : σ) (i : Nat), l.length - i = d → i ≤ l.length → d + K < k → P i s → g k s (i : Int) = res ((l.drop i).foldl f s) := by
  intro d
  induction d with
  | zero =>
    intro k s i hd hi hk hp
    obtain ⟨k, rfl⟩ : ∃ m, k = m + 1 := ⟨k - 1, by omega⟩
    have e : i = l.length := by omega
    subst e
    rw [last k s (by omega) hp, List.drop_length]
    rfl
  | succ d ih =>
    intro k s i hd hi hk hp
    obtain ⟨k, rfl⟩ : ∃ m, k = m + 1 := ⟨k - 1, by omega⟩
    rw [step k s i (by omega) hp, ih k _ (i + 1) (by omega) (by omega) (by omega) (inv s i (by omega) hp), drop_at l z i (by omega), List.foldl_cons]
theorem fold_from {α σ β : Type} (g : Nat → σ → Int → Option β) (f : σ → α → σ) (z : α) (l : List α) (P : Nat → σ → Prop) (K : Nat) (res : σ → Option β)
    (step : ∀ (k : Nat) (s : σ) (i : Nat), i < l.length → P i s → g (k + 1) s (i : Int) = g k (f s (l.getD i z)) ((i + 1 : Nat) : Int))
    (inv : ∀ (s : σ) (i : Nat), i < l.length → P i s → P (i + 1) (f s (l.getD i z)))
    (last : ∀ (k : Nat) (s : σ), K ≤ k → P l.length s → g (k + 1) s (l.length : Int) = res s) (k : Nat) (s : σ) (hk : l.length + K < k) (hp : P 0 s) : g k s 0 = res (l.foldl f s) := by
  have := fold_loop g f z l P K res step inv last l.length k s 0 (by omega) (by omega) hk hp
  simpa using this
theorem getD_mem {α : Type} (l : List α) (z : α) (i : Nat) (h : i < l.length) : l.getD i z ∈ l := by
  rw [getD_at l z i h]
  exact List.getElem_mem h
end Go.Proofs.Ytlefddghiiigeaa.Loops
