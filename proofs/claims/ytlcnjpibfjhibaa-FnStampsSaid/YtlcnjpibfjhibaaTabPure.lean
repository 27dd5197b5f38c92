/- impl's table of how amounts are paid: over lists alone, and its bounds. -/
import Derived.Test.YtlcnjpibfjhibaaQ0
set_option linter.unusedVariables false
set_option linter.unusedSimpArgs false
namespace Go.Proofs.Ytlcnjpibfjhibaa.Q
open Go.RowKit Go.Proofs.YtlcnjpibfjhibaaW.PrintWords
/-- One number of stamps of a value, for one amount: ways and the least. -/
def cellStep (prev : List S80) (v at_ : Int) (acc : S80) (k : Nat) : S80 :=
  if (prev.getD (at_ - k * v).toNat z80).f0 = 0 then acc
  else ⟨acc.f0 + (prev.getD (at_ - k * v).toNat z80).f0, if acc.f0 = 0 ∨ (prev.getD (at_ - k * v).toNat z80).f1 + k < acc.f1 then (prev.getD (at_ - k * v).toNat z80).f1 + k else acc.f1⟩
/-- How many numbers are looked at. -/
def cellK (v h at_ : Int) : Nat := min h.toNat (at_ / v).toNat + 1
def cellAt (prev : List S80) (v at_ : Int) : Nat → S80
  | 0 => z80
  | k + 1 => cellStep prev v at_ (cellAt prev v at_ k) k
def rowT (prev : List S80) (v h : Int) (m : Nat) : List S80 := (List.range m).map fun (a : Nat) => cellAt prev v (a : Int) (cellK v h (a : Int))
/-- The row behind the last value: nothing is paid with nothing. -/
def lastT (m : Nat) : List S80 := (List.replicate m z80).set 0 ⟨1, 0⟩
def tabD (vs hs : List Int) (m : Nat) : Nat → List S80
  | 0 => lastT m
  | d + 1 => rowT (tabD vs hs m d) (vs.getD (vs.length - (d + 1)) 0) (hs.getD (vs.length - (d + 1)) 0) m
/-- The table, from the first value on. -/
def tabT (vs hs : List Int) (m : Nat) : List (List S80) := (List.range (vs.length + 1)).map fun j => tabD vs hs m (vs.length - j)
theorem rowT_length (prev : List S80) (v h : Int) (m : Nat) : (rowT prev v h m).length = m := by simp [rowT]
theorem lastT_length (m : Nat) : (lastT m).length = m := by simp [lastT]
theorem tabD_length (vs hs : List Int) (m : Nat) : ∀ d, (tabD vs hs m d).length = m
  | 0 => lastT_length m
  | d + 1 => rowT_length _ _ _ _
theorem rowT_get (prev : List S80) (v h : Int) (m a : Nat) (ha : a < m) : (rowT prev v h m).getD a z80 = cellAt prev v (a : Int) (cellK v h (a : Int)) := by
  simp [rowT, List.getD_eq_getElem?_getD, ha]
theorem lastT_get (m a : Nat) (ha : a < m) : (lastT m).getD a z80 = if a = 0 then ⟨1, 0⟩ else z80 := by
  unfold lastT
  by_cases h : a = 0
  · subst h
    rw [if_pos rfl]
    simp [List.getD_eq_getElem?_getD, ha]
  · rw [if_neg h]
    rw [List.getD_eq_getElem?_getD, List.getElem?_set_ne (Ne.symm h), List.getElem?_replicate, if_pos ha]
    rfl
theorem cellK_iff {v h at_ : Int} (hv : 1 ≤ v) (hh : 0 ≤ h) (ha : 0 ≤ at_) (k : Nat) : k < cellK v h at_ ↔ (k : Int) ≤ h ∧ (k : Int) * v ≤ at_ := by
  unfold cellK
  have h1 : (k : Int) * v ≤ at_ ↔ (k : Int) ≤ at_ / v := (Int.le_ediv_iff_mul_le (by omega)).symm
  have h2 : 0 ≤ at_ / v := Int.ediv_nonneg ha (by omega)
  rw [h1]
  omega
/-- What bounds a row: ways and the least. -/
structure RowOk (b : Int) (m : Nat) (L : List S80) : Prop where
  ways : ∀ a : Nat, a < m → 0 ≤ (L.getD a z80).f0 ∧ (L.getD a z80).f0 ≤ b
  least : ∀ a : Nat, a < m → 0 ≤ (L.getD a z80).f1 ∧ (L.getD a z80).f1 ≤ a
theorem cellAt_ok {b : Int} {m : Nat} {prev : List S80} (h : RowOk b m prev) (hb : 0 ≤ b) {v : Int} (hv : 1 ≤ v) {a : Nat} (ha : a < m) : ∀ k : Nat, (k : Int) * v ≤ a + v → 0 ≤ (cellAt prev v a k).f0 ∧ (cellAt prev v a k).f0 ≤ b * k ∧ 0 ≤ (cellAt prev v a k).f1 ∧ (cellAt prev v a k).f1 ≤ a
  | 0, _ => by simp [cellAt, z80]
  | k + 1, hk => by
    have e : ((k + 1 : Nat) : Int) * v = (k : Int) * v + v := by rw [Int.natCast_add, Int.add_mul]; simp
    rw [e] at hk
    obtain ⟨h0, h1, h2, h3⟩ := cellAt_ok h hb hv ha k (by omega)
    have hkv : (k : Int) ≤ (k : Int) * v := by
      have := Int.mul_le_mul_of_nonneg_left hv (show (0 : Int) ≤ k by omega)
      rwa [Int.mul_one] at this
    have hx : ((a : Int) - k * v).toNat < m := by omega
    obtain ⟨w1, w2⟩ := h.ways _ hx
    obtain ⟨l1, l2⟩ := h.least _ hx
    have eb : b * ((k + 1 : Nat) : Int) = b * k + b := by rw [Int.natCast_add, Int.mul_add]; simp
    rw [cellAt, cellStep]
    split
    · rw [eb]
      omega
    · simp only
      refine ⟨by omega, by rw [eb]; omega, ?_⟩
      split <;> omega
theorem lastT_ok (m : Nat) : RowOk 1 m (lastT m) := by
  refine ⟨fun a ha => ?_, fun a ha => ?_⟩
  · rw [lastT_get m a ha]
    split <;> simp [z80]
  · rw [lastT_get m a ha]
    split <;> simp [z80]
theorem cellK_le {v h : Int} (hv : 1 ≤ v) (hh : 0 ≤ h) (a : Nat) : (cellK v h (a : Int) : Int) ≤ a + 1 ∧ (cellK v h (a : Int) : Int) * v ≤ a + v := by
  have h1 : ((cellK v h (a : Int) : Nat) : Int) ≤ (a : Int) / v + 1 := by
    unfold cellK
    have h2 : 0 ≤ (a : Int) / v := Int.ediv_nonneg (by omega) (by omega)
    omega
  have h2 : (a : Int) / v ≤ a := Int.ediv_le_self _ (by omega)
  have h3 : (a : Int) / v * v ≤ a := Int.ediv_mul_le _ (by omega)
  refine ⟨by omega, ?_⟩
  have := Int.mul_le_mul_of_nonneg_right h1 (show (0 : Int) ≤ v by omega)
  rw [Int.add_mul, Int.one_mul] at this
  omega
theorem rowT_ok {b : Int} {m : Nat} {prev : List S80} (h : RowOk b m prev) (hb : 0 ≤ b) {v hh : Int} (hv : 1 ≤ v) (h0 : 0 ≤ hh) : RowOk (b * m) m (rowT prev v hh m) := by
  have key : ∀ a : Nat, a < m → 0 ≤ (cellAt prev v a (cellK v hh a)).f0 ∧ (cellAt prev v a (cellK v hh a)).f0 ≤ b * m ∧ 0 ≤ (cellAt prev v a (cellK v hh a)).f1 ∧ (cellAt prev v a (cellK v hh a)).f1 ≤ a := fun a ha => by
    obtain ⟨k1, k2⟩ := cellK_le hv h0 a
    obtain ⟨q0, q1, q2, q3⟩ := cellAt_ok h hb hv ha (cellK v hh a) k2
    have := Int.mul_le_mul_of_nonneg_left (show (cellK v hh a : Int) ≤ m by omega) hb
    exact ⟨q0, by omega, q2, q3⟩
  refine ⟨fun a ha => ?_, fun a ha => ?_⟩
  · rw [rowT_get _ _ _ _ _ ha]
    exact ⟨(key a ha).1, (key a ha).2.1⟩
  · rw [rowT_get _ _ _ _ _ ha]
    exact (key a ha).2.2
/-- What bounds the ways of a table of at most 5 values and 2000 amounts. -/
def wayB (m : Nat) : Nat → Int
  | 0 => 1
  | d + 1 => wayB m d * m
theorem wayB_pos (m : Nat) : ∀ d, 0 ≤ wayB m d
  | 0 => by simp [wayB]
  | d + 1 => Int.mul_nonneg (wayB_pos m d) (by omega)
theorem wayB_mono {m : Nat} (hm : m ≤ 2000) : ∀ d, wayB m d ≤ wayB 2000 d
  | 0 => Int.le_refl _
  | d + 1 => by
    have h1 := wayB_mono hm d
    have h2 := wayB_pos m d
    have h3 := wayB_pos 2000 d
    have h4 := Int.mul_le_mul_of_nonneg_left (show (m : Int) ≤ ((2000 : Nat) : Int) by omega) h2
    have h5 := Int.mul_le_mul_of_nonneg_right h1 (show (0 : Int) ≤ ((2000 : Nat) : Int) by omega)
    simp only [wayB]
    omega
theorem wayB_le {m : Nat} (hm : m ≤ 2000) : ∀ d, d ≤ 5 → wayB m d ≤ 32000000000000000 := by
  intro d hd
  have h1 := wayB_mono hm d
  have h2 : wayB 2000 d ≤ wayB 2000 5 := by
    have : d = 0 ∨ d = 1 ∨ d = 2 ∨ d = 3 ∨ d = 4 ∨ d = 5 := by omega
    rcases this with rfl | rfl | rfl | rfl | rfl | rfl <;> simp [wayB]
  have h3 : wayB 2000 5 = 32000000000000000 := by simp [wayB]
  omega
theorem wayB_le4 {m : Nat} (hm : m ≤ 2000) : ∀ d, d ≤ 4 → wayB m d ≤ 16000000000000 := by
  intro d hd
  have h1 := wayB_mono hm d
  have h2 : wayB 2000 d ≤ wayB 2000 4 := by
    have : d = 0 ∨ d = 1 ∨ d = 2 ∨ d = 3 ∨ d = 4 := by omega
    rcases this with rfl | rfl | rfl | rfl | rfl <;> simp [wayB]
  have h3 : wayB 2000 4 = 16000000000000 := by simp [wayB]
  omega
theorem tabD_ok {vs hs : List Int} (m : Nat) (hl : vs.length = hs.length) (hv : ∀ v ∈ vs, 1 ≤ v) (hh : ∀ h ∈ hs, 0 ≤ h) : ∀ d, d ≤ vs.length → RowOk (wayB m d) m (tabD vs hs m d)
  | 0, _ => lastT_ok m
  | d + 1, hd => by
    have ih := tabD_ok m hl hv hh d (by omega)
    refine rowT_ok ih (wayB_pos m d) (hv _ ?_) (hh _ ?_)
    · rw [List.getD_eq_getElem?_getD, List.getElem?_eq_getElem (by omega)]
      exact List.getElem_mem _
    · rw [List.getD_eq_getElem?_getD, List.getElem?_eq_getElem (by omega)]
      exact List.getElem_mem _
end Go.Proofs.Ytlcnjpibfjhibaa.Q
