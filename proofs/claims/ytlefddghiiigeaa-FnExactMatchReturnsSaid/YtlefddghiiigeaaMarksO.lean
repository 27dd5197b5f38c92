/- The laws' marks: what they write into lists, and that they find it again. -/
import Derived.Test.YtlefddghiiigeaaHelp6O
import Derived.Test.YtlefddghiiigeaaMC
import Derived.Test.YtlefddghiiigeaaQ4
set_option linter.unusedVariables false
set_option linter.unusedSimpArgs false
namespace Go.Proofs.Ytlefddghiiigeaa.Loops
open Go.RowKit Go.Proofs.YtlefddghiiigeaaW.PrintWords
def gmarks {α : Type} (mk : Int → α) (s : Nat) (a : Int) (n : Nat) : List α := (List.range n).map fun (j : Nat) => mk (a + s * j)
theorem gmarks_length {α : Type} (mk : Int → α) (s : Nat) (a : Int) (n : Nat) : (gmarks mk s a n).length = n := by simp [gmarks]
theorem gmarks_get {α : Type} (mk : Int → α) (s : Nat) (a : Int) (n i : Nat) (z : α) (h : i < n) : (gmarks mk s a n).getD i z = mk (a + s * i) := by
  rw [getD_at _ _ _ (by rw [gmarks_length]; exact h)]
  simp [gmarks]
theorem mul_succ_cast (s d : Nat) : (s : Int) * ((d + 1 : Nat) : Int) = s * d + s := by rw [Int.natCast_add, Int.mul_add]; simp
theorem gmarks_cons {α : Type} (mk : Int → α) (s : Nat) (a : Int) (n : Nat) : gmarks mk s a (n + 1) = mk a :: gmarks mk s (a + s) n := by
  apply List.ext_getElem?
  intro i
  cases i with
  | zero => simp [gmarks]
  | succ i =>
    simp only [gmarks, List.getElem?_cons_succ, List.getElem?_map]
    by_cases h : i < n
    · rw [List.getElem?_range (by omega), List.getElem?_range h]
      simp only [Option.map_some]
      rw [mul_succ_cast, show a + (s : Int) + s * i = a + (s * i + s) by omega]
    · rw [List.getElem?_eq_none (by simp; omega), List.getElem?_eq_none (by simp; omega)]
      rfl
theorem gmark_loop {α : Type} (g : Nat → List α → Int → Int → Option (Int × List α)) (mk : Int → α) (s : Nat) (hs : s ≤ 1024)
    (step : ∀ (k : Nat) (l : List α) (a : Int) (i : Nat), i < l.length → l.length ≤ 1048576 → 0 ≤ a → a ≤ 2305843009213693952 → g (k + 1) l a (i : Int) = g k (l.set i (mk a)) (a + s) ((i + 1 : Nat) : Int))
    (last : ∀ (k : Nat) (l : List α) (a : Int), g (k + 1) l a (l.length : Int) = some (a, l)) :
    ∀ (d k : Nat) (l : List α) (a : Int) (i : Nat), l.length ≤ 1048576 → l.length - i = d → i ≤ l.length → d < k → 0 ≤ a → a + s * d ≤ 2305843009213693952 → g k l a (i : Int) = some (a + s * d, l.take i ++ gmarks mk s a d) := by
  intro d
  induction d with
  | zero =>
    intro k l a i hl hd hi hk ha hb
    obtain ⟨k, rfl⟩ : ∃ n, k = n + 1 := ⟨k - 1, by omega⟩
    have : i = l.length := by omega
    subst this
    rw [last, List.take_of_length_le (by omega)]
    simp [gmarks]
  | succ d ih =>
    intro k l a i hl hd hi hk ha hb
    obtain ⟨k, rfl⟩ : ∃ n, k = n + 1 := ⟨k - 1, by omega⟩
    have hm := mul_succ_cast s d
    have h0 : (0 : Int) ≤ s * d := Int.mul_nonneg (by omega) (by omega)
    rw [step k l a i (by omega) hl ha (by omega), ih k _ (a + s) (i + 1) (by rw [List.length_set]; exact hl) (by rw [List.length_set]; omega) (by rw [List.length_set]; omega) (by omega) (by omega) (by omega), take_set _ _ _ (by omega), gmarks_cons]
    simp only [List.append_assoc, List.cons_append, List.nil_append]
    rw [hm, show a + (s : Int) + s * d = a + (s * d + s) by omega]
theorem gheld_loop {α : Type} (g : Nat → List α → Int → Int → Option Int) (mk : Int → α) (s : Nat) (z : α) (n : Nat) (b : Int) (hn : n ≤ 1048576) (hb0 : 0 ≤ b) (hb : b ≤ 1048576 * 1048576) (hs : s ≤ 1024)
    (step : ∀ (k : Nat) (l : List α) (a : Int) (i : Nat), i < l.length → l.length ≤ 1048576 → 0 ≤ a → a ≤ 2305843009213693952 → l.getD i z = mk a → g (k + 1) l a (i : Int) = g k l (a + s) ((i + 1 : Nat) : Int))
    (last : ∀ (k : Nat) (l : List α) (a : Int), g (k + 1) l a (l.length : Int) = some a) :
    ∀ (d k i : Nat), n - i = d → i ≤ n → d < k → g k (gmarks mk s b n) (b + s * i) (i : Int) = some (b + s * n) := by
  intro d
  induction d with
  | zero =>
    intro k i hd hi hk
    obtain ⟨k, rfl⟩ : ∃ n, k = n + 1 := ⟨k - 1, by omega⟩
    have : i = n := by omega
    subst this
    have := last k (gmarks mk s b i) (b + s * i)
    rw [gmarks_length] at this
    exact this
  | succ d ih =>
    intro k i hd hi hk
    obtain ⟨k, rfl⟩ : ∃ n, k = n + 1 := ⟨k - 1, by omega⟩
    have hm := mul_succ_cast s i
    have h0 : (0 : Int) ≤ s * i := Int.mul_nonneg (by omega) (by omega)
    have h1 : (s : Int) * i ≤ 1024 * 1048576 := Int.mul_le_mul (by omega) (by omega) (by omega) (by omega)
    rw [step k _ _ i (by rw [gmarks_length]; omega) (by rw [gmarks_length]; exact hn) (by omega) (by omega) (gmarks_get mk s b n i z (by omega)), show b + (s : Int) * i + s = b + s * ((i + 1 : Nat) : Int) by rw [hm]; omega]
    exact ih k (i + 1) (by omega) (by omega) (by omega)
theorem num_loop {α : Type} (g : Nat → List α → Int → Int → Option (Int × List α)) (s : Nat) (hs : s ≤ 1024)
    (step : ∀ (k : Nat) (l : List α) (a : Int) (i : Nat), i < l.length → l.length ≤ 1048576 → 0 ≤ a → a ≤ 2305843009213693952 → ∃ l2 : List α, l2.length = l.length ∧ g (k + 1) l a (i : Int) = g k l2 (a + s) ((i + 1 : Nat) : Int))
    (last : ∀ (k : Nat) (l : List α) (a : Int), g (k + 1) l a (l.length : Int) = some (a, l)) :
    ∀ (d k : Nat) (l : List α) (a : Int) (i : Nat), l.length ≤ 1048576 → l.length - i = d → i ≤ l.length → d < k → 0 ≤ a → a + s * d ≤ 2305843009213693952 → ∃ l2, g k l a (i : Int) = some (a + s * d, l2) := by
  intro d
  induction d with
  | zero =>
    intro k l a i hl hd hi hk ha hb
    obtain ⟨k, rfl⟩ : ∃ n, k = n + 1 := ⟨k - 1, by omega⟩
    have : i = l.length := by omega
    subst this
    exact ⟨l, by rw [last]; simp⟩
  | succ d ih =>
    intro k l a i hl hd hi hk ha hb
    obtain ⟨k, rfl⟩ : ∃ n, k = n + 1 := ⟨k - 1, by omega⟩
    have hm := mul_succ_cast s d
    have h0 : (0 : Int) ≤ s * d := Int.mul_nonneg (by omega) (by omega)
    obtain ⟨l2, h2, h3⟩ := step k l a i (by omega) hl ha (by omega)
    obtain ⟨l3, h4⟩ := ih k l2 (a + s) (i + 1) (by omega) (by omega) (by omega) (by omega) (by omega) (by omega)
    exact ⟨l3, by rw [h3, h4, hm, show a + (s : Int) + s * d = a + (s * d + s) by omega]⟩
end Go.Proofs.Ytlefddghiiigeaa.Loops
namespace Go.Proofs.Ytlefddghiiigeaa.Q
open Go.RowKit Go.Proofs.YtlefddghiiigeaaW.PrintWords Go.Proofs.YtlefddghiiigeaaW.PrintLast Go.Proofs.YtlefddghiiigeaaW.PrintMore Go.Proofs.Ytlefddghiiigeaa.Loops
theorem markOrderS_num (l : List S55) (hl : l.length ≤ 1048576) (k : Nat) (hk : l.length < k) (a : Int) (ha : 0 ≤ a) (hb : a ≤ 1048576 * 1048576) : ∃ l2, laws_markOrderS.f k l a = some (a + 5 * l.length, l2) := by
  unfold laws_markOrderS.f
  have := num_loop (fun k l a i => laws_markOrderS.l0 k l a i) 5 (by omega) (fun k l a i h1 h2 h3 h4 => ?_) (fun k l a => ?_) l.length k l a 0 hl (by omega) (by omega) hk ha (by omega)
  · simpa using this
  · simp only [laws_markOrderS.l0]
    rw [if_pos (by omega), if_pos (by omega)]
    simp only [Option.bind_some, Int.toNat_natCast]
    rw [wrap_mid (i := (i : Int) + 1) (by omega) (by omega)]
    have e1 : wrap64 (a + 1) = a + 1 := wrap_mid (by omega) (by omega)
    have e2 : wrap64 (a + 1 + 1) = a + 1 + 1 := wrap_mid (by omega) (by omega)
    have e3 : wrap64 (a + 1 + 1 + 1) = a + 1 + 1 + 1 := wrap_mid (by omega) (by omega)
    have e4 : wrap64 (a + 1 + 1 + 1 + 1) = a + 1 + 1 + 1 + 1 := wrap_mid (by omega) (by omega)
    have e5 : wrap64 (a + 1 + 1 + 1 + 1 + 1) = a + ((5 : Nat) : Int) := by rw [wrap_mid (by omega) (by omega)]; omega
    rw [e1, e2, e3, e4, e5]
    exact ⟨_, by simp only [List.length_set], rfl⟩
  · simp only [laws_markOrderS.l0]
    rw [if_neg (by omega)]
theorem markReturnS_num (l : List S50) (hl : l.length ≤ 1048576) (k : Nat) (hk : l.length < k) (a : Int) (ha : 0 ≤ a) (hb : a ≤ 1048576 * 1048576) : ∃ l2, laws_markReturnS.f k l a = some (a + 4 * l.length, l2) := by
  unfold laws_markReturnS.f
  have := num_loop (fun k l a i => laws_markReturnS.l0 k l a i) 4 (by omega) (fun k l a i h1 h2 h3 h4 => ?_) (fun k l a => ?_) l.length k l a 0 hl (by omega) (by omega) hk ha (by omega)
  · simpa using this
  · simp only [laws_markReturnS.l0]
    rw [if_pos (by omega), if_pos (by omega)]
    simp only [Option.bind_some, Int.toNat_natCast]
    rw [wrap_mid (i := (i : Int) + 1) (by omega) (by omega)]
    have e1 : wrap64 (a + 1) = a + 1 := wrap_mid (by omega) (by omega)
    have e2 : wrap64 (a + 1 + 1) = a + 1 + 1 := wrap_mid (by omega) (by omega)
    have e3 : wrap64 (a + 1 + 1 + 1) = a + 1 + 1 + 1 := wrap_mid (by omega) (by omega)
    have e4 : wrap64 (a + 1 + 1 + 1 + 1) = a + ((4 : Nat) : Int) := by rw [wrap_mid (by omega) (by omega)]; omega
    rw [e1, e2, e3, e4]
    exact ⟨_, by simp only [List.length_set], rfl⟩
  · simp only [laws_markReturnS.l0]
    rw [if_neg (by omega)]
end Go.Proofs.Ytlefddghiiigeaa.Q
