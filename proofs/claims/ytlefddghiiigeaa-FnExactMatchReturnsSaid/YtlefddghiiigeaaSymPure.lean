/- slices' rotate and symMerge, over arrays: two sorted halves become one, in the strict order. -/
import Derived.Sort.Lot0
import Derived.Sort.LotA
set_option linter.unusedVariables false
set_option linter.unusedSimpArgs false
namespace Go.Proofs.Ytlefddghiiigeaa.Q
open Go.Sort (swp size_swp swp_get SWO PermIn SortedIn permIn_refl permIn_trans permIn_all permIn_mono swp_permIn)
section
variable {α : Type} [Inhabited α]
/-- swapRange: n rounds. -/
def swapR (a b : Nat) : Nat → Array α → Array α
  | 0, d => d
  | n + 1, d => swp (swapR a b n d) (a + n) (b + n)
theorem swapR_size (a b : Nat) (d : Array α) : ∀ n, (swapR a b n d).size = d.size
  | 0 => rfl
  | n + 1 => by rw [swapR, size_swp, swapR_size a b d n]
theorem swapR_get (a b : Nat) (d : Array α) : ∀ n, a + n ≤ b → b + n ≤ d.size → ∀ k, (swapR a b n d)[k]! = if a ≤ k ∧ k < a + n then d[b + (k - a)]! else if b ≤ k ∧ k < b + n then d[a + (k - b)]! else d[k]!
  | 0, _, _, k => by rw [swapR, if_neg (by omega), if_neg (by omega)]
  | n + 1, h1, h2, k => by
    have ih := swapR_get a b d n (by omega) (by omega)
    rw [swapR, swp_get _ (by rw [swapR_size]; omega) (by rw [swapR_size]; omega), ih, ih, ih]
    by_cases e1 : k = b + n
    · subst e1
      rw [if_pos rfl, if_neg (by omega), if_neg (by omega), if_neg (by omega), if_pos (by omega)]
      congr 1; omega
    · rw [if_neg e1]
      by_cases e2 : k = a + n
      · subst e2
        rw [if_pos rfl, if_neg (by omega), if_neg (by omega), if_pos (by omega)]
        congr 1; omega
      · rw [if_neg e2]
        by_cases c1 : a ≤ k ∧ k < a + n
        · rw [if_pos c1, if_pos (by omega)]
        · rw [if_neg c1, if_neg (show ¬ (a ≤ k ∧ k < a + (n + 1)) by omega)]
          by_cases c2 : b ≤ k ∧ k < b + n
          · rw [if_pos c2, if_pos (by omega)]
          · rw [if_neg c2, if_neg (by omega)]
/-- rotate's loop. -/
def rot (m : Nat) : Nat → Nat → Nat → Array α → Array α
  | 0, _, _, d => d
  | f + 1, i, j, d => if i = j then swapR (m - i) m i d else if j < i then rot m f (i - j) j (swapR (m - i) m j d) else rot m f i (j - i) (swapR (m - i) (m + j - i) i d)
theorem rot_size (m : Nat) : ∀ (f i j : Nat) (d : Array α), (rot m f i j d).size = d.size
  | 0, _, _, _ => rfl
  | f + 1, i, j, d => by
    rw [rot]
    split
    · rw [swapR_size]
    · split
      · rw [rot_size m f, swapR_size]
      · rw [rot_size m f, swapR_size]
theorem rot_get (m : Nat) : ∀ (f i j : Nat) (d : Array α), 1 ≤ i → 1 ≤ j → i + j ≤ f → i ≤ m → m + j ≤ d.size → ∀ k, (rot m f i j d)[k]! = if m - i ≤ k ∧ k < m - i + j then d[k + i]! else if m - i + j ≤ k ∧ k < m + j then d[k - j]! else d[k]!
  | 0, i, j, d, h1, h2, h3, h4, h5, k => by omega
  | f + 1, i, j, d, h1, h2, h3, h4, h5, k => by
    rw [rot]
    by_cases e : i = j
    · subst e
      rw [if_pos rfl, swapR_get _ _ _ _ (by omega) (by omega)]
      by_cases c1 : m - i ≤ k ∧ k < m - i + i
      · rw [if_pos c1, if_pos c1]; congr 1; omega
      · rw [if_neg c1, if_neg c1]
        by_cases c2 : m ≤ k ∧ k < m + i
        · rw [if_pos c2, if_pos (by omega)]; congr 1; omega
        · rw [if_neg c2, if_neg (by omega)]
    · rw [if_neg e]
      by_cases g : j < i
      · rw [if_pos g, rot_get m f (i - j) j _ (by omega) h2 (by omega) (by omega) (by rw [swapR_size]; exact h5)]
        have sg := swapR_get (m - i) m d j (by omega) (by omega)
        rw [sg, sg, sg]
        by_cases c1 : m - i ≤ k ∧ k < m - i + j
        · rw [if_neg (by omega), if_neg (by omega), if_pos c1, if_pos c1]; congr 1; omega
        · by_cases c2 : m - i + j ≤ k ∧ k < m - i + j + j
          · rw [if_pos (by omega), if_neg (by omega), if_pos (by omega), if_neg c1, if_pos (by omega)]; congr 1; omega
          · by_cases c3 : m - i + j + j ≤ k ∧ k < m + j
            · rw [if_neg (by omega), if_pos (by omega), if_neg (by omega), if_neg (by omega), if_neg c1, if_pos (by omega)]
            · rw [if_neg (by omega), if_neg (by omega), if_neg c1, if_neg (by omega), if_neg c1, if_neg (by omega)]
      · rw [if_neg g, rot_get m f i (j - i) _ h1 (by omega) (by omega) h4 (by rw [swapR_size]; omega)]
        have sg := swapR_get (m - i) (m + j - i) d i (by omega) (by omega)
        rw [sg, sg, sg]
        by_cases c1 : m - i ≤ k ∧ k < m - i + (j - i)
        · rw [if_pos c1, if_neg (by omega), if_neg (by omega), if_pos (by omega)]
        · by_cases c2 : m - i + (j - i) ≤ k ∧ k < m + (j - i)
          · rw [if_neg c1, if_pos (by omega), if_pos (by omega)]
            rw [if_pos (by omega)]; congr 1; omega
          · by_cases c3 : m + (j - i) ≤ k ∧ k < m + j
            · rw [if_neg c1, if_neg (by omega), if_neg (by omega), if_pos (by omega), if_neg (by omega), if_pos (by omega)]; congr 1; omega
            · rw [if_neg c1, if_neg (by omega), if_neg (by omega), if_neg (by omega), if_neg (by omega), if_neg (by omega)]
/-- The rounds asked for do not matter. -/
theorem rot_fuel (m : Nat) : ∀ (f f2 i j : Nat) (d : Array α), i + j ≤ f → i + j ≤ f2 → 1 ≤ i → 1 ≤ j → rot m f i j d = rot m f2 i j d
  | 0, f2, i, j, d, h1, h2, h3, h4 => by omega
  | f + 1, 0, i, j, d, h1, h2, h3, h4 => by omega
  | f + 1, f2 + 1, i, j, d, h1, h2, h3, h4 => by
    rw [rot, rot]
    by_cases e : i = j
    · rw [if_pos e, if_pos e]
    · rw [if_neg e, if_neg e]
      by_cases g : j < i
      · rw [if_pos g, if_pos g]; exact rot_fuel m f f2 _ _ _ (by omega) (by omega) (by omega) h4
      · rw [if_neg g, if_neg g]; exact rot_fuel m f f2 _ _ _ (by omega) (by omega) h3 (by omega)
/-- The search in halves: where the test stops to hold. -/
def srch (p : Nat → Bool) : Nat → Nat → Nat → Nat
  | 0, s, _ => s
  | f + 1, s, r => if s < r then (if p ((s + r) / 2) = true then srch p f ((s + r) / 2 + 1) r else srch p f s ((s + r) / 2)) else s
theorem srch_is (p : Nat → Bool) (s0 r0 : Nat) : ∀ (f s r : Nat), s0 ≤ s → s ≤ r → r ≤ r0 → r - s ≤ f → (s = s0 ∨ p (s - 1) = true) → (r = r0 ∨ p r = false) → s ≤ srch p f s r ∧ srch p f s r ≤ r ∧ (srch p f s r = s0 ∨ p (srch p f s r - 1) = true) ∧ (srch p f s r = r0 ∨ p (srch p f s r) = false)
  | 0, s, r, h1, h2, h3, h4, h5, h6 => by
    have : s = r := by omega
    subst this
    exact ⟨Nat.le_refl _, Nat.le_refl _, h5, h6⟩
  | f + 1, s, r, h1, h2, h3, h4, h5, h6 => by
    rw [srch]
    by_cases c : s < r
    · rw [if_pos c]
      by_cases q : p ((s + r) / 2) = true
      · rw [if_pos q]
        obtain ⟨g1, g2, g3, g4⟩ := srch_is p s0 r0 f ((s + r) / 2 + 1) r (by omega) (by omega) h3 (by omega) (.inr (by rw [Nat.add_sub_cancel]; exact q)) h6
        exact ⟨by omega, g2, g3, g4⟩
      · rw [if_neg q]
        obtain ⟨g1, g2, g3, g4⟩ := srch_is p s0 r0 f s ((s + r) / 2) h1 (by omega) (by omega) (by omega) h5 (.inr (by simpa using q))
        exact ⟨g1, by omega, g3, g4⟩
    · rw [if_neg c]
      have : s = r := by omega
      subst this
      exact ⟨Nat.le_refl _, Nat.le_refl _, h5, h6⟩
theorem swapR_perm (a b : Nat) (d : Array α) (lo hi : Nat) (h0 : lo ≤ a) (h1 : lo ≤ b) (hd : hi ≤ d.size) : ∀ n, a + n ≤ hi → b + n ≤ hi → PermIn lo hi d (swapR a b n d)
  | 0, _, _ => permIn_refl _ _ _
  | n + 1, h2, h3 => by
    rw [swapR]
    exact permIn_trans _ _ _ _ _ (swapR_perm a b d lo hi h0 h1 hd n (by omega) (by omega)) (swp_permIn _ lo hi (a + n) (b + n) (by omega) (by omega) (by omega) (by omega) (by rw [swapR_size]; exact hd))
theorem rot_perm (m : Nat) (lo hi : Nat) : ∀ (f i j : Nat) (d : Array α), i ≤ m → lo ≤ m - i → m + j ≤ hi → hi ≤ d.size → PermIn lo hi d (rot m f i j d)
  | 0, i, j, d, _, _, _, _ => permIn_refl _ _ _
  | f + 1, i, j, d, h1, h2, h3, h4 => by
    rw [rot]
    by_cases e : i = j
    · subst e
      rw [if_pos rfl]
      exact swapR_perm _ _ _ _ _ h2 (by omega) h4 _ (by omega) h3
    · rw [if_neg e]
      by_cases g : j < i
      · rw [if_pos g]
        exact permIn_trans _ _ _ _ _ (swapR_perm (m - i) m d lo hi h2 (by omega) h4 j (by omega) h3) (rot_perm m lo hi f (i - j) j _ (by omega) (by omega) h3 (by rw [swapR_size]; exact h4))
      · rw [if_neg g]
        exact permIn_trans _ _ _ _ _ (swapR_perm (m - i) (m + j - i) d lo hi h2 (by omega) h4 i (by omega) (by omega)) (rot_perm m lo hi f i (j - i) _ h1 h2 (by omega) (by rw [swapR_size]; exact h4))
/-- One element up, n places. -/
def shUp (a : Nat) : Nat → Array α → Array α
  | 0, d => d
  | n + 1, d => swp (shUp a n d) (a + n) (a + n + 1)
theorem shUp_size (a : Nat) (d : Array α) : ∀ n, (shUp a n d).size = d.size
  | 0 => rfl
  | n + 1 => by rw [shUp, size_swp, shUp_size a d n]
theorem shUp_get (a : Nat) (d : Array α) : ∀ n, a + n < d.size → ∀ k, (shUp a n d)[k]! = if a ≤ k ∧ k < a + n then d[k + 1]! else if k = a + n then d[a]! else d[k]!
  | 0, _, k => by
    rw [shUp, if_neg (by omega)]
    by_cases e : k = a + 0
    · rw [if_pos e]; congr 1
    · rw [if_neg e]
  | n + 1, h, k => by
    have ih := shUp_get a d n (by omega)
    rw [shUp, swp_get _ (by rw [shUp_size]; omega) (by rw [shUp_size]; omega), ih, ih, ih]
    by_cases e1 : k = a + n + 1
    · rw [if_pos e1, if_neg (by omega), if_pos rfl, if_neg (by omega), if_pos (by omega)]
    · rw [if_neg e1]
      by_cases e2 : k = a + n
      · rw [if_pos e2, if_neg (by omega), if_neg (by omega), if_pos (by omega), e2]
      · rw [if_neg e2]
        by_cases c : a ≤ k ∧ k < a + n
        · rw [if_pos c, if_pos (by omega)]
        · rw [if_neg c, if_neg e2, if_neg (by omega), if_neg (by omega)]
theorem shUp_perm (a : Nat) (d : Array α) (lo hi : Nat) (h0 : lo ≤ a) (hd : hi ≤ d.size) : ∀ n, a + n < hi → PermIn lo hi d (shUp a n d)
  | 0, _ => permIn_refl _ _ _
  | n + 1, h => by
    rw [shUp]
    exact permIn_trans _ _ _ _ _ (shUp_perm a d lo hi h0 hd n (by omega)) (swp_permIn _ lo hi (a + n) (a + n + 1) (by omega) (by omega) (by omega) (by omega) (by rw [shUp_size]; exact hd))
/-- One element down, n places. -/
def shDn (m : Nat) : Nat → Array α → Array α
  | 0, d => d
  | n + 1, d => swp (shDn m n d) (m - n) (m - n - 1)
theorem shDn_size (m : Nat) (d : Array α) : ∀ n, (shDn m n d).size = d.size
  | 0 => rfl
  | n + 1 => by rw [shDn, size_swp, shDn_size m d n]
theorem shDn_get (m : Nat) (d : Array α) (hm : m < d.size) : ∀ n, n ≤ m → ∀ k, (shDn m n d)[k]! = if m - n < k ∧ k ≤ m then d[k - 1]! else if k = m - n then d[m]! else d[k]!
  | 0, _, k => by
    rw [shDn, if_neg (by omega)]
    by_cases e : k = m - 0
    · rw [if_pos e]; congr 1
    · rw [if_neg e]
  | n + 1, h, k => by
    have ih := shDn_get m d hm n (by omega)
    rw [shDn, swp_get _ (by rw [shDn_size]; omega) (by rw [shDn_size]; omega), ih, ih, ih]
    by_cases e1 : k = m - n - 1
    · rw [if_pos e1, if_neg (by omega), if_pos rfl, if_neg (by omega), if_pos (by omega)]
    · rw [if_neg e1]
      by_cases e2 : k = m - n
      · rw [if_pos e2, if_neg (by omega), if_neg (by omega), if_pos (by omega), e2]
      · rw [if_neg e2]
        by_cases c : m - n < k ∧ k ≤ m
        · rw [if_pos c, if_pos (by omega)]
        · rw [if_neg c, if_neg e2, if_neg (by omega), if_neg (by omega)]
theorem shDn_perm (m : Nat) (d : Array α) (lo hi : Nat) (h1 : m < hi) (hd : hi ≤ d.size) : ∀ n, lo + n ≤ m → PermIn lo hi d (shDn m n d)
  | 0, _ => permIn_refl _ _ _
  | n + 1, h => by
    rw [shDn]
    exact permIn_trans _ _ _ _ _ (shDn_perm m d lo hi h1 hd n (by omega)) (swp_permIn _ lo hi (m - n) (m - n - 1) (by omega) (by omega) (by omega) (by omega) (by rw [shDn_size]; exact hd))
/-- symMerge, after its text. -/
def symM (lt : α → α → Bool) : Nat → Nat → Nat → Nat → Array α → Array α
  | 0, _, _, _, d => d
  | f + 1, a, m, b, d =>
    if m - a = 1 then shUp a (srch (fun h => lt d[h]! d[a]!) (b - m) m b - 1 - a) d
    else if b - m = 1 then shDn m (m - srch (fun h => !lt d[m]! d[h]!) (m - a) a m) d
    else
      let mid := (a + b) / 2
      let st := if mid < m then srch (fun c => !lt d[mid + m - 1 - c]! d[c]!) (b - a) (mid + m - b) mid else srch (fun c => !lt d[mid + m - 1 - c]! d[c]!) (b - a) a m
      let en := mid + m - st
      let d1 := if st < m ∧ m < en then rot m (en - st) (m - st) (en - m) d else d
      let d2 := if a < st ∧ st < mid then symM lt f a st mid d1 else d1
      if mid < en ∧ en < b then symM lt f mid en b d2 else d2
/-- What is told of a merge. -/
structure Merg (lt2 : α → α → Bool) (a b : Nat) (d d' : Array α) : Prop where
  perm : PermIn a b d d'
  sorted : SortedIn lt2 a b d'
omit [Inhabited α] in
theorem SWO.asym {lt2 : α → α → Bool} (hS : SWO lt2) {x y : α} (h : lt2 x y = true) : lt2 y x = false := by
  cases h2 : lt2 y x with
  | false => rfl
  | true => have := hS.trans x y x h h2; rw [hS.irrefl] at this; cases this
theorem symM_is {lt lt2 : α → α → Bool} (hS : SWO lt2) : ∀ (f a m b : Nat) (d : Array α), b - a ≤ f → a < m → m < b → b ≤ d.size → SortedIn lt2 a m d → SortedIn lt2 m b d →
    (∀ i j, a ≤ i → i < m → m ≤ j → j < b → lt d[j]! d[i]! = lt2 d[j]! d[i]!) → Merg lt2 a b d (symM lt f a m b d)
  | 0, a, m, b, d, h0, h1, h2, h3, hA, hB, hX => by omega
  | f + 1, a, m, b, d, h0, h1, h2, h3, hA, hB, hX => by
    rw [symM]
    by_cases c1 : m - a = 1
    · rw [if_pos c1]
      have hma : m = a + 1 := by omega
      obtain ⟨g1, g2, g3, g4⟩ := srch_is (fun h => lt d[h]! d[a]!) m b (b - m) m b (Nat.le_refl _) (by omega) (Nat.le_refl _) (Nat.le_refl _) (.inl rfl) (.inl rfl)
      obtain ⟨i, hi⟩ : ∃ i, srch (fun h => lt d[h]! d[a]!) (b - m) m b = i := ⟨_, rfl⟩
      rw [hi] at g1 g2 g3 g4 ⊢
      have hget := shUp_get a d (i - 1 - a) (by omega)
      refine ⟨shUp_perm a d a b (Nat.le_refl _) h3 _ (by omega), fun x y hx hxy hy => ?_⟩
      have hlow : ∀ k, m ≤ k → k < i → lt2 d[a]! d[k]! = false := fun k k1 k2 => by
        rcases g3 with g3 | g3
        · omega
        · have e1 : lt2 d[i - 1]! d[a]! = true := by rw [← hX a (i - 1) (Nat.le_refl _) h1 (by omega) (by omega)]; exact g3
          have e2 := SWO.asym hS e1
          by_cases e : k = i - 1
          · rw [e]; exact e2
          · exact hS.ntrans _ _ _ e2 (hB k (i - 1) k1 (by omega) (by omega))
      have hhigh : ∀ k, i ≤ k → k < b → lt2 d[k]! d[a]! = false := fun k k1 k2 => by
        rcases g4 with g4 | g4
        · omega
        · have e1 : lt2 d[i]! d[a]! = false := by rw [← hX a i (Nat.le_refl _) h1 (by omega) (by omega)]; exact g4
          by_cases e : k = i
          · rw [e]; exact e1
          · exact hS.ntrans _ _ _ (hB i k (by omega) (by omega) k2) e1
      have hl : ∀ k, a ≤ k → k < i - 1 → (shUp a (i - 1 - a) d)[k]! = d[k + 1]! := fun k k1 k2 => by rw [hget, if_pos (by omega)]
      have hm : (shUp a (i - 1 - a) d)[i - 1]! = d[a]! := by rw [hget, if_neg (by omega), if_pos (by omega)]
      have hr : ∀ k, i ≤ k → (shUp a (i - 1 - a) d)[k]! = d[k]! := fun k k1 => by rw [hget, if_neg (by omega), if_neg (by omega)]
      by_cases e1 : x < i - 1
      · rw [hl x hx e1]
        by_cases e2 : y < i - 1
        · rw [hl y (by omega) e2]; exact hB _ _ (by omega) (by omega) (by omega)
        · by_cases e3 : y = i - 1
          · rw [e3, hm]; exact hlow _ (by omega) (by omega)
          · rw [hr y (by omega)]; exact hB _ _ (by omega) (by omega) (by omega)
      · rw [hr y (by omega)]
        by_cases e3 : x = i - 1
        · rw [e3, hm]; exact hhigh _ (by omega) hy
        · rw [hr x (by omega)]; exact hB _ _ (by omega) hxy hy
    · rw [if_neg c1]
      by_cases c2 : b - m = 1
      · rw [if_pos c2]
        obtain ⟨g1, g2, g3, g4⟩ := srch_is (fun h => !lt d[m]! d[h]!) a m (m - a) a m (Nat.le_refl _) (by omega) (Nat.le_refl _) (Nat.le_refl _) (.inl rfl) (.inl rfl)
        obtain ⟨i, hi⟩ : ∃ i, srch (fun h => !lt d[m]! d[h]!) (m - a) a m = i := ⟨_, rfl⟩
        rw [hi] at g1 g2 g3 g4 ⊢
        have hget := shDn_get m d (by omega) (m - i) (by omega)
        refine ⟨shDn_perm m d a b (by omega) h3 _ (by omega), fun x y hx hxy hy => ?_⟩
        have hlow : ∀ k, a ≤ k → k < i → lt2 d[m]! d[k]! = false := fun k k1 k2 => by
          rcases g3 with g3 | g3
          · omega
          · have e1 : lt2 d[m]! d[i - 1]! = false := by
              rw [← hX (i - 1) m (by omega) (by omega) (Nat.le_refl _) (by omega)]
              simpa using g3
            by_cases e : k = i - 1
            · rw [e]; exact e1
            · exact hS.ntrans _ _ _ e1 (hA k (i - 1) k1 (by omega) (by omega))
        have hhigh : ∀ k, i ≤ k → k < m → lt2 d[k]! d[m]! = false := fun k k1 k2 => by
          rcases g4 with g4 | g4
          · omega
          · have e1 : lt2 d[m]! d[i]! = true := by
              rw [← hX i m (by omega) (by omega) (Nat.le_refl _) (by omega)]
              simpa using g4
            have e2 := SWO.asym hS e1
            by_cases e : k = i
            · rw [e]; exact e2
            · exact hS.ntrans _ _ _ (hA i k (by omega) (by omega) k2) e2
        have hl : ∀ k, k < i → (shDn m (m - i) d)[k]! = d[k]! := fun k k1 => by rw [hget, if_neg (by omega), if_neg (by omega)]
        have hm : (shDn m (m - i) d)[i]! = d[m]! := by rw [hget, if_neg (by omega), if_pos (by omega)]
        have hr : ∀ k, i < k → k ≤ m → (shDn m (m - i) d)[k]! = d[k - 1]! := fun k k1 k2 => by rw [hget, if_pos (by omega)]
        by_cases e1 : x < i
        · rw [hl x e1]
          by_cases e2 : y < i
          · rw [hl y e2]; exact hA _ _ hx hxy (by omega)
          · by_cases e3 : y = i
            · rw [e3, hm]; exact hlow _ hx e1
            · rw [hr y (by omega) (by omega)]; exact hA _ _ hx (by omega) (by omega)
        · rw [hr y (by omega) (by omega)]
          by_cases e3 : x = i
          · rw [e3, hm]; exact hhigh _ (by omega) (by omega)
          · rw [hr x (by omega) (by omega)]; exact hA _ _ (by omega) (by omega) (by omega)
      · rw [if_neg c2]
        obtain ⟨mid, hmid⟩ : ∃ mid, (a + b) / 2 = mid := ⟨_, rfl⟩
        simp only [hmid]
        have hm1 : a < mid := by omega
        have hm2 : mid < b := by omega
        obtain ⟨P, hP⟩ : ∃ P : Nat → Bool, P = fun c => !lt d[mid + m - 1 - c]! d[c]! := ⟨_, rfl⟩
        rw [← hP]
        obtain ⟨st, hst⟩ : ∃ st, (if mid < m then srch P (b - a) (mid + m - b) mid else srch P (b - a) a m) = st := ⟨_, rfl⟩
        simp only [hst]
        obtain ⟨s0, r0, q1, q2, q3, q4, q5, q6⟩ : ∃ s0 r0, s0 ≤ st ∧ st ≤ r0 ∧ (st = s0 ∨ P (st - 1) = true) ∧ (st = r0 ∨ P st = false) ∧ (s0 = a ∧ r0 = m ∧ m ≤ mid ∨ s0 = mid + m - b ∧ r0 = mid ∧ mid < m) ∧ a ≤ s0 := by
          by_cases g : mid < m
          · rw [if_pos g] at hst
            obtain ⟨g1, g2, g3, g4⟩ := srch_is P (mid + m - b) mid (b - a) (mid + m - b) mid (Nat.le_refl _) (by omega) (Nat.le_refl _) (by omega) (.inl rfl) (.inl rfl)
            rw [hst] at g1 g2 g3 g4
            exact ⟨_, _, g1, g2, g3, g4, .inr ⟨rfl, rfl, g⟩, by omega⟩
          · rw [if_neg g] at hst
            obtain ⟨g1, g2, g3, g4⟩ := srch_is P a m (b - a) a m (Nat.le_refl _) (by omega) (Nat.le_refl _) (by omega) (.inl rfl) (.inl rfl)
            rw [hst] at g1 g2 g3 g4
            exact ⟨_, _, g1, g2, g3, g4, .inl ⟨rfl, rfl, by omega⟩, Nat.le_refl _⟩
        obtain ⟨en, hen⟩ : ∃ en, mid + m - st = en := ⟨_, rfl⟩
        simp only [hen]
        have hse : st + en = mid + m := by omega
        have b1 : a ≤ st := by omega
        have b2 : st ≤ m := by omega
        have b3 : m ≤ en := by omega
        have b4 : en ≤ b := by omega
        -- behind the rotation
        obtain ⟨d1, hd1⟩ : ∃ d1, (if st < m ∧ m < en then rot m (en - st) (m - st) (en - m) d else d) = d1 := ⟨_, rfl⟩
        simp only [hd1]
        have hp1 : PermIn a b d d1 := by
          rw [← hd1]
          split
          · exact rot_perm m a b _ _ _ d (by omega) (by omega) (by omega) h3
          · exact permIn_refl _ _ _
        have hg1 : ∀ k, d1[k]! = if st ≤ k ∧ k < mid then d[k + (m - st)]! else if mid ≤ k ∧ k < en then d[k - (en - m)]! else d[k]! := by
          intro k
          rw [← hd1]
          by_cases g : st < m ∧ m < en
          · rw [if_pos g, rot_get m _ _ _ d (by omega) (by omega) (by omega) (by omega) (by omega), show m - (m - st) = st by omega, show st + (en - m) = mid by omega, show m + (en - m) = en by omega]
          · rw [if_neg g]
            by_cases e1 : st = m
            · have : mid = en := by omega
              by_cases e2 : st ≤ k ∧ k < mid
              · rw [if_pos e2]; congr 1; omega
              · rw [if_neg e2, if_neg (by omega)]
            · have : st = mid := by omega
              rw [if_neg (by omega)]
              by_cases e2 : mid ≤ k ∧ k < en
              · rw [if_pos e2]; congr 1; omega
              · rw [if_neg e2]
        have hs1 := hp1.1
        -- what lies left is not greater than what lies right
        have hAA : ∀ i j, a ≤ i → i < st → en ≤ j → j < b → lt2 d[j]! d[i]! = false := fun i j i1 i2 j1 j2 => by
          rcases q3 with q3 | q3
          · rcases q5 with ⟨e1, _, _⟩ | ⟨e1, _, _⟩ <;> omega
          · have e1 : lt2 d[en]! d[st - 1]! = false := by
              rw [hP] at q3
              rw [← hX (st - 1) en (by omega) (by omega) b3 (by omega)]
              have : mid + m - 1 - (st - 1) = en := by omega
              simp only [this] at q3
              simpa using q3
            have e2 : lt2 d[j]! d[st - 1]! = false := by
              by_cases e : j = en
              · rw [e]; exact e1
              · exact hS.ntrans _ _ _ (hB en j b3 (by omega) j2) e1
            by_cases e : i = st - 1
            · rw [e]; exact e2
            · exact hS.ntrans _ _ _ e2 (hA i (st - 1) i1 (by omega) (by omega))
        have hBA : ∀ i j, m ≤ i → i < en → st ≤ j → j < m → lt2 d[j]! d[i]! = false := fun i j i1 i2 j1 j2 => by
          rcases q4 with q4 | q4
          · rcases q5 with ⟨_, e1, _⟩ | ⟨_, e1, _⟩ <;> omega
          · have e0 : lt2 d[en - 1]! d[st]! = true := by
              rw [hP] at q4
              rw [← hX st (en - 1) b1 (by omega) (by omega) (by omega)]
              have : mid + m - 1 - st = en - 1 := by omega
              simp only [this] at q4
              simpa using q4
            have e1 := SWO.asym hS e0
            have e2 : lt2 d[j]! d[en - 1]! = false := by
              by_cases e : j = st
              · rw [e]; exact e1
              · exact hS.ntrans _ _ _ (hA st j b1 (by omega) j2) e1
            by_cases e : i = en - 1
            · rw [e]; exact e2
            · exact hS.ntrans _ _ _ e2 (hB i (en - 1) i1 (by omega) (by omega))
        have hLR : ∀ i j, a ≤ i → i < mid → mid ≤ j → j < b → lt2 d1[j]! d1[i]! = false := fun i j i1 i2 j1 j2 => by
          rw [hg1, hg1]
          by_cases x1 : i < st
          · rw [if_neg (show ¬ (st ≤ j ∧ j < mid) by omega), if_neg (show ¬ (st ≤ i ∧ i < mid) by omega), if_neg (show ¬ (mid ≤ i ∧ i < en) by omega)]
            by_cases x2 : j < en
            · rw [if_pos (by omega)]; exact hA _ _ i1 (by omega) (by omega)
            · rw [if_neg (by omega)]; exact hAA _ _ i1 x1 (by omega) j2
          · rw [if_neg (show ¬ (st ≤ j ∧ j < mid) by omega), if_pos (show st ≤ i ∧ i < mid by omega)]
            by_cases x2 : j < en
            · rw [if_pos (by omega)]; exact hBA _ _ (by omega) (by omega) (by omega) (by omega)
            · rw [if_neg (by omega)]; exact hB _ _ (by omega) (by omega) j2
        -- the left half
        have hL : Merg lt2 a mid d1 (if a < st ∧ st < mid then symM lt f a st mid d1 else d1) := by
          have sA : SortedIn lt2 a st d1 := fun i j i1 ij j1 => by
            rw [hg1, hg1, if_neg (by omega), if_neg (by omega), if_neg (by omega), if_neg (by omega)]
            exact hA _ _ i1 ij (by omega)
          have sB : SortedIn lt2 st mid d1 := fun i j i1 ij j1 => by
            rw [hg1, hg1, if_pos (by omega), if_pos (by omega)]
            exact hB _ _ (by omega) (by omega) (by omega)
          by_cases g : a < st ∧ st < mid
          · rw [if_pos g]
            refine symM_is hS f a st mid d1 (by omega) g.1 g.2 (by rw [hs1]; omega) sA sB (fun i j i1 i2 j1 j2 => ?_)
            rw [hg1, hg1, if_pos (show st ≤ j ∧ j < mid by omega), if_neg (show ¬ (st ≤ i ∧ i < mid) by omega), if_neg (by omega)]
            exact hX _ _ i1 (by omega) (by omega) (by omega)
          · rw [if_neg g]
            refine ⟨permIn_refl _ _ _, ?_⟩
            by_cases e : st ≤ a
            · have : st = a := by omega
              rw [this] at sB
              exact sB
            · have : mid ≤ st := by omega
              exact fun i j i1 ij j1 => sA i j i1 ij (by omega)
        obtain ⟨d2, hd2⟩ : ∃ d2, (if a < st ∧ st < mid then symM lt f a st mid d1 else d1) = d2 := ⟨_, rfl⟩
        rw [hd2] at hL
        simp only [hd2]
        have hs2 := hL.perm.1
        have hsame : ∀ k, mid ≤ k → d2[k]! = d1[k]! := fun k hk => hL.perm.2.1 k (.inr hk)
        have hLR2 : ∀ i j, a ≤ i → i < mid → mid ≤ j → j < b → lt2 d2[j]! d2[i]! = false := fun i j i1 i2 j1 j2 => by
          rw [hsame j j1]
          exact permIn_all d1 d2 a mid (fun x => lt2 d1[j]! x = false) (by rw [hs1]; omega) hL.perm (fun k k1 k2 => hLR k j k1 k2 j1 j2) i i1 i2
        -- the right half
        have hR : Merg lt2 mid b d2 (if mid < en ∧ en < b then symM lt f mid en b d2 else d2) := by
          have sA : SortedIn lt2 mid en d2 := fun i j i1 ij j1 => by
            rw [hsame i (by omega), hsame j (by omega), hg1, hg1, if_neg (by omega), if_pos (by omega), if_neg (by omega), if_pos (by omega)]
            exact hA _ _ (by omega) (by omega) (by omega)
          have sB : SortedIn lt2 en b d2 := fun i j i1 ij j1 => by
            rw [hsame i (by omega), hsame j (by omega), hg1, hg1, if_neg (by omega), if_neg (by omega), if_neg (by omega), if_neg (by omega)]
            exact hB _ _ (by omega) ij j1
          by_cases g : mid < en ∧ en < b
          · rw [if_pos g]
            refine symM_is hS f mid en b d2 (by omega) g.1 g.2 (by rw [hs2, hs1]; omega) sA sB (fun i j i1 i2 j1 j2 => ?_)
            rw [hsame i i1, hsame j (by omega), hg1, hg1, if_neg (show ¬ (st ≤ j ∧ j < mid) by omega), if_neg (show ¬ (mid ≤ j ∧ j < en) by omega), if_neg (show ¬ (st ≤ i ∧ i < mid) by omega), if_pos (show mid ≤ i ∧ i < en by omega)]
            exact hX _ _ (by omega) (by omega) (by omega) j2
          · rw [if_neg g]
            refine ⟨permIn_refl _ _ _, ?_⟩
            by_cases e : en ≤ mid
            · have : en = mid := by omega
              rw [this] at sB
              exact sB
            · have : b ≤ en := by omega
              exact fun i j i1 ij j1 => sA i j i1 ij (by omega)
        obtain ⟨d3, hd3⟩ : ∃ d3, (if mid < en ∧ en < b then symM lt f mid en b d2 else d2) = d3 := ⟨_, rfl⟩
        rw [hd3] at hR
        simp only [hd3]
        have hlow : ∀ k, k < mid → d3[k]! = d2[k]! := fun k hk => hR.perm.2.1 k (.inl hk)
        refine ⟨permIn_trans _ _ _ _ _ hp1 (permIn_trans _ _ _ _ _ (permIn_mono _ _ a mid a b (Nat.le_refl _) (by omega) (by rw [hs1]; exact h3) hL.perm) (permIn_mono _ _ mid b a b (by omega) (Nat.le_refl _) (by rw [hs2, hs1]; exact h3) hR.perm)), fun i j i1 ij j1 => ?_⟩
        by_cases x1 : j < mid
        · rw [hlow i (by omega), hlow j x1]; exact hL.sorted i j i1 ij x1
        · by_cases x2 : i < mid
          · rw [hlow i x2]
            exact permIn_all d2 d3 mid b (fun y => lt2 y d2[i]! = false) (by rw [hs2, hs1]; exact h3) hR.perm (fun k k1 k2 => hLR2 i k i1 x2 k1 k2) j (by omega) j1
          · exact hR.sorted i j (by omega) ij j1
end
end Go.Proofs.Ytlefddghiiigeaa.Q
