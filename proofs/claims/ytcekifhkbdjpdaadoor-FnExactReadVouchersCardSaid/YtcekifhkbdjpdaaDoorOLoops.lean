/- Loops over lists, printed: one that looks at each element; one that gathers. Lists of at most 1048576 elements. -/
import Derived.Test.YtcekifhkbdjpdaaDoorLoops
set_option linter.unusedVariables false
namespace Go.Proofs.YtcekifhkbdjpdaaDoor.Loops
open Go.RowKit Go.Proofs.YtcekifhkbdjpdaaDoorW.PrintWords
theorem all_loop {α β : Type} (g : Nat → Int → Option β) (p : α → Bool) (z : α) (l : List α) (no fin : Option β) (K : Nat)
    (step : ∀ k i : Nat, i < l.length → K ≤ k → g (k + 1) (i : Int) = if p (l.getD i z) = true then g k ((i + 1 : Nat) : Int) else no) (last : ∀ k, K ≤ k → g (k + 1) (l.length : Int) = fin) :
    ∀ (d k i : Nat), l.length - i = d → i ≤ l.length → d + K < k → g k (i : Int) = if (l.drop i).all p = true then fin else no := by
  intro d
  induction d with
  | zero =>
    intro k i hd hi hk
    obtain ⟨k, rfl⟩ : ∃ m, k = m + 1 := ⟨k - 1, by omega⟩
    have e : i = l.length := by omega
    subst e
    rw [last k (by omega), List.drop_length]
    simp
  | succ d ih =>
    intro k i hd hi hk
    obtain ⟨k, rfl⟩ : ∃ m, k = m + 1 := ⟨k - 1, by omega⟩
    rw [step k i (by omega) (by omega), ih k (i + 1) (by omega) (by omega) (by omega), drop_at l z i (by omega), List.all_cons]
    cases p (l.getD i z) <;> simp
theorem all_from {α β : Type} (g : Nat → Int → Option β) (p : α → Bool) (z : α) (l : List α) (no fin : Option β) (K : Nat)
    (step : ∀ k i : Nat, i < l.length → K ≤ k → g (k + 1) (i : Int) = if p (l.getD i z) = true then g k ((i + 1 : Nat) : Int) else no) (last : ∀ k, K ≤ k → g (k + 1) (l.length : Int) = fin) (k : Nat) (hk : l.length + K < k) :
    g k 0 = if l.all p = true then fin else no := by
  have := all_loop g p z l no fin K step last l.length k 0 (by omega) (by omega) hk
  simpa using this
theorem stop_loop {α β : Type} (g : Nat → Int → Option β) (p : α → Bool) (z : α) (l : List α) (no : Option β)
    (step : ∀ k i : Nat, i < l.length → g (k + 1) (i : Int) = if p (l.getD i z) = true then g k ((i + 1 : Nat) : Int) else no) :
    ∀ (d k i : Nat), l.length - i = d → d < k → (l.drop i).all p = false → g k (i : Int) = no := by
  intro d
  induction d with
  | zero =>
    intro k i hd hk h
    rw [List.drop_of_length_le (by omega)] at h
    cases h
  | succ d ih =>
    intro k i hd hk h
    obtain ⟨k, rfl⟩ : ∃ m, k = m + 1 := ⟨k - 1, by omega⟩
    rw [drop_at l z i (by omega), List.all_cons] at h
    rw [step k i (by omega)]
    by_cases hp : p (l.getD i z) = true
    · rw [if_pos hp]
      rw [hp, Bool.true_and] at h
      exact ih k (i + 1) (by omega) (by omega) h
    · rw [if_neg hp]
theorem stop_from {α β : Type} (g : Nat → Int → Option β) (p : α → Bool) (z : α) (l : List α) (no : Option β)
    (step : ∀ k i : Nat, i < l.length → g (k + 1) (i : Int) = if p (l.getD i z) = true then g k ((i + 1 : Nat) : Int) else no) (k : Nat) (hk : l.length < k) (h : l.all p = false) : g k 0 = no :=
  stop_loop g p z l no step l.length k 0 (by omega) hk (by simpa using h)
theorem pass_loop {α β : Type} (g : Nat → Int → Option β) (p : α → Bool) (z : α) (l : List α) (no : Option β)
    (step : ∀ k i : Nat, i < l.length → g (k + 1) (i : Int) = if p (l.getD i z) = true then g k ((i + 1 : Nat) : Int) else no) (h : l.all p = true) :
    ∀ (d k i : Nat), l.length - i = d → i ≤ l.length → g (k + d) (i : Int) = g k (l.length : Int) := by
  intro d
  induction d with
  | zero =>
    intro k i hd hi
    have : i = l.length := by omega
    rw [this]
    rfl
  | succ d ih =>
    intro k i hd hi
    have hp : p (l.getD i z) = true := by
      rw [getD_at l z i (by omega)]
      exact List.all_eq_true.1 h _ (List.getElem_mem _)
    rw [show k + (d + 1) = (k + d) + 1 by omega, step _ i (by omega), if_pos hp]
    exact ih k (i + 1) (by omega) (by omega)
theorem pass_from {α β : Type} (g : Nat → Int → Option β) (p : α → Bool) (z : α) (l : List α) (no : Option β)
    (step : ∀ k i : Nat, i < l.length → g (k + 1) (i : Int) = if p (l.getD i z) = true then g k ((i + 1 : Nat) : Int) else no) (h : l.all p = true) (k : Nat) : g (k + l.length) 0 = g k (l.length : Int) :=
  pass_loop g p z l no step h l.length k 0 (by omega) (by omega)
theorem fold_loop {α σ β : Type} (g : Nat → σ → Int → Option β) (f : σ → α → σ) (z : α) (l : List α) (P : Nat → σ → Prop) (K : Nat) (res : σ → Option β)
    (step : ∀ (k : Nat) (s : σ) (i : Nat), i < l.length → P i s → g (k + 1) s (i : Int) = g k (f s (l.getD i z)) ((i + 1 : Nat) : Int))
    (inv : ∀ (s : σ) (i : Nat), i < l.length → P i s → P (i + 1) (f s (l.getD i z)))
    (last : ∀ (k : Nat) (s : σ), K ≤ k → P l.length s → g (k + 1) s (l.length : Int) = res s) :
    ∀ (d k : Nat) (s : σ) (i : Nat), l.length - i = d → i ≤ l.length → d + K < k → P i s → g k s (i : Int) = res ((l.drop i).foldl f s) := by
  intro d
  induction d with
  | zero =>
    intro k s i hd hi hk hp
    obtain ⟨k, rfl⟩ : ∃ m, k = m + 1 := ⟨k - 1, by omega⟩
    have e : i = l.length := by omega
    subst e
    rw [last k s (by omega) hp, List.drop_length]
    rfl
  | succ d ih =>
    intro k s i hd hi hk hp
    obtain ⟨k, rfl⟩ : ∃ m, k = m + 1 := ⟨k - 1, by omega⟩
    rw [step k s i (by omega) hp, ih k _ (i + 1) (by omega) (by omega) (by omega) (inv s i (by omega) hp), drop_at l z i (by omega), List.foldl_cons]
theorem fold_from {α σ β : Type} (g : Nat → σ → Int → Option β) (f : σ → α → σ) (z : α) (l : List α) (P : Nat → σ → Prop) (K : Nat) (res : σ → Option β)
    (step : ∀ (k : Nat) (s : σ) (i : Nat), i < l.length → P i s → g (k + 1) s (i : Int) = g k (f s (l.getD i z)) ((i + 1 : Nat) : Int))
    (inv : ∀ (s : σ) (i : Nat), i < l.length → P i s → P (i + 1) (f s (l.getD i z)))
    (last : ∀ (k : Nat) (s : σ), K ≤ k → P l.length s → g (k + 1) s (l.length : Int) = res s) (k : Nat) (s : σ) (hk : l.length + K < k) (hp : P 0 s) : g k s 0 = res (l.foldl f s) := by
  have := fold_loop g f z l P K res step inv last l.length k s 0 (by omega) (by omega) hk hp
  simpa using this
theorem getD_mem {α : Type} (l : List α) (z : α) (i : Nat) (h : i < l.length) : l.getD i z ∈ l := by
  rw [getD_at l z i h]
  exact List.getElem_mem h
end Go.Proofs.YtcekifhkbdjpdaaDoor.Loops
