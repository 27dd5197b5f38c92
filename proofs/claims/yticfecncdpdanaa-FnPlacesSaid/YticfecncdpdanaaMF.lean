/- Scans that can be right, and chains of their places. -/
import Derived.Test.YticfecncdpdanaaMD
import Derived.Test.YticfecncdpdanaaHMost
import Derived.Test.YticfecncdpdanaaMH
import Derived.Test.YticfecncdpdanaaHWhere
import Derived.Test.YticfecncdpdanaaHIsLate
import Derived.Test.YticfecncdpdanaaME
set_option linter.unusedVariables false
set_option linter.unusedSimpArgs false
namespace Go.Proofs.Yticfecncdpdanaa.Q
open Go.RowKit Go.Proofs.YticfecncdpdanaaW.PrintWords Go.Proofs.Yticfecncdpdanaa.Most
theorem bad_chain (t : Int) (l : List S44) (ss : List S31) : ∀ (q : List Nat) (i : Int), 0 ≤ i → q.Pairwise (fun a b => a < b) → (badFrom t l (q.map fun k => ss.getD k z31) i < 0 ↔ ChainN (goB t l ss) q)
  | [], i, _, _ => by simp [badFrom, ChainN]
  | [a], i, _, _ => by simp [badFrom, ChainN]
  | a :: b :: r, i, hi, hp => by
    have ih := bad_chain t l ss (b :: r) (i + 1) (by omega) (List.pairwise_cons.1 hp).2
    have hab := (List.pairwise_cons.1 hp).1 b (by simp)
    have e : goB t l ss a b = arrB t l (ss.getD a z31).f0.toNat (ss.getD a z31).f1.toNat (ss.getD b z31).f0.toNat (ss.getD b z31).f1.toNat := by unfold goB; rfl
    simp only [List.map_cons] at ih ⊢
    rw [badFrom, ← e]
    by_cases g : goB t l ss a b = true
    · rw [if_pos g, ih]
      exact ⟨fun h => ⟨hab, g, h⟩, fun h => h.2.2⟩
    · rw [if_neg g]
      exact ⟨fun h => by omega, fun h => absurd h.2.1 g⟩
theorem map_range (ss : List S31) : (List.range ss.length).map (fun k => ss.getD k z31) = ss := by
  apply List.ext_getElem
  · simp
  · intro i h1 h2
    simp [List.getD_eq_getElem?_getD, h2]
theorem map_erase {α β : Type} (f : α → β) : ∀ (l : List α) (i : Nat), (l.eraseIdx i).map f = (l.map f).eraseIdx i
  | [], i => by simp
  | x :: r, 0 => by simp
  | x :: r, i + 1 => by simp [map_erase f r i]
theorem range_inc (n : Nat) : (List.range n).Pairwise (fun a b => a < b) := List.pairwise_lt_range
theorem erase_inc (n i : Nat) : ((List.range n).eraseIdx i).Pairwise (fun a b => a < b) := (range_inc n).sublist (List.eraseIdx_sublist _ _)
/-- All right: the places in their order are a chain. -/
theorem fine_chain (t : Int) (l : List S44) (ss : List S31) : badFrom t l ss 0 < 0 ↔ ChainN (goB t l ss) (List.range ss.length) := by
  have := bad_chain t l ss (List.range ss.length) 0 (by omega) (range_inc _)
  rw [map_range] at this
  exact this
theorem false_chain (t : Int) (l : List S44) (ss : List S31) (i : Nat) : falseB t l ss i = true ↔ ChainN (goB t l ss) ((List.range ss.length).eraseIdx i) := by
  have := bad_chain t l ss ((List.range ss.length).eraseIdx i) 0 (by omega) (erase_inc _ _)
  rw [map_erase, map_range] at this
  unfold falseB
  rw [decide_eq_true_eq]
  exact this
theorem chain_inc {go : Nat → Nat → Bool} : ∀ {c : List Nat}, ChainN go c → c.Pairwise (fun a b => a < b)
  | [], _ => List.Pairwise.nil
  | a :: r, h => List.pairwise_cons.2 ⟨fun x hx => h.gt x hx, chain_inc h.tail⟩
/-- What is told of the most scans. -/
structure MostF (t : Int) (l : List S44) (ss : List S31) (c : List Nat) : Prop where
  low : ∀ x ∈ c, x < ss.length
  right : badFrom t l (c.map fun k => ss.getD k z31) 0 < 0
  full : badFrom t l ss 0 < 0 ↔ c.length = ss.length
  less : ∀ i, i < ss.length → falseB t l ss i = true → ss.length ≤ c.length + 1
  some_ : 0 < ss.length → 0 < c.length
  len : c.length ≤ ss.length
theorem most_facts (t : Int) (l : List S44) (ss : List S31) : ∃ c, outL (goB t l ss) ss.length ss.length = castN c ∧ MostF t l ss c := by
  obtain ⟨c, c1, c2, c3, c4⟩ := chain_out (goB t l ss) ss.length
  refine ⟨c, c1, c3, (bad_chain t l ss c 0 (by omega) (chain_inc c2)).2 c2, ?_, fun i hi hf => ?_, fun h => ?_, ?_⟩
  · have hfull := rises_full (goB t l ss) c 0 ss.length (Nat.zero_le _) c2 (fun x hx => ⟨Nat.zero_le _, c3 x hx⟩)
    rw [fine_chain]
    constructor
    · intro h
      have := c4 _ h (fun x hx => List.mem_range.1 hx)
      rw [List.length_range] at this
      omega
    · intro h
      have e := hfull.2 (by omega)
      rw [h] at e
      rw [List.range_eq_range', ← e]
      exact c2
  · have h1 := c4 _ ((false_chain t l ss i).1 hf) (fun x hx => List.mem_range.1 ((List.eraseIdx_sublist _ _).subset hx))
    rw [List.length_eraseIdx] at h1
    rw [List.length_range] at h1
    rw [if_pos hi] at h1
    omega
  · have := c4 [0] trivial (fun x hx => by rw [List.mem_singleton.1 hx]; exact h)
    simp at this
    omega
  · have := (rises_full (goB t l ss) c 0 ss.length (Nat.zero_le _) c2 (fun x hx => ⟨Nat.zero_le _, c3 x hx⟩)).1
    omega
end Go.Proofs.Yticfecncdpdanaa.Q
/- Places in which a parcel can be; scans in their order; who is late. -/
set_option linter.unusedVariables false
set_option linter.unusedSimpArgs false
namespace Go.Proofs.Yticfecncdpdanaa.Q
open Go.RowKit Go.Proofs.YticfecncdpdanaaW.PrintWords Go.Proofs.Yticfecncdpdanaa.Most
theorem someH_iff (p : Nat → Bool) (lo hi : Int) : someH p lo hi = true ↔ ∃ h : Nat, lo ≤ (h : Int) ∧ (h : Int) ≤ hi ∧ h ≤ 300 ∧ p h = true := by
  unfold someH
  rw [decide_eq_true_eq, fH_iff]
  constructor
  · rintro ⟨h, h1, h2, h3⟩
    exact ⟨h, by omega, by omega, by omega, h3⟩
  · rintro ⟨h, h1, h2, h3, h4⟩
    exact ⟨h, by omega, by omega, h4⟩
theorem hours_mem (p : Nat → Bool) : ∀ (n h : Nat) (x : Int), x ∈ hoursFrom p n h ↔ ∃ k : Nat, h ≤ k ∧ k < h + n ∧ p k = true ∧ x = (k : Int)
  | 0, h, x => by
    rw [hoursFrom]
    exact ⟨fun q => absurd q List.not_mem_nil, fun ⟨k, h1, h2, _⟩ => by omega⟩
  | n + 1, h, x => by
    rw [hoursFrom]
    have ih := hours_mem p n (h + 1) x
    by_cases g : p h = true
    · rw [if_pos g, List.mem_cons, ih]
      constructor
      · rintro (rfl | ⟨k, k1, k2, k3, k4⟩)
        · exact ⟨h, Nat.le_refl _, by omega, g, rfl⟩
        · exact ⟨k, by omega, by omega, k3, k4⟩
      · rintro ⟨k, k1, k2, k3, k4⟩
        by_cases e : k = h
        · left; rw [k4, e]
        · exact .inr ⟨k, by omega, by omega, k3, k4⟩
    · rw [if_neg g, ih]
      constructor
      · rintro ⟨k, k1, k2, k3, k4⟩
        exact ⟨k, by omega, by omega, k3, k4⟩
      · rintro ⟨k, k1, k2, k3, k4⟩
        have e : k ≠ h := fun e => g (by rw [← e]; exact k3)
        exact ⟨k, by omega, by omega, k3, k4⟩
theorem selL_mem (p : Nat → Bool) (n : Nat) (x : Int) : x ∈ selL p n ↔ ∃ k : Nat, k < n ∧ p k = true ∧ x = (k : Int) := by
  unfold selL
  rw [List.mem_map]
  constructor
  · rintro ⟨k, hk, rfl⟩
    obtain ⟨h1, h2⟩ := List.mem_filter.1 hk
    exact ⟨k, List.mem_range.1 h1, h2, rfl⟩
  · rintro ⟨k, h1, h2, rfl⟩
    exact ⟨k, List.mem_filter.2 ⟨List.mem_range.2 h1, h2⟩, rfl⟩
/-- A parcel can be at a station just where it has come there and may stay till then. -/
theorem place_iff (t : Int) (l : List S44) (a0 a1 : Nat) (hour : Int) (s : Nat) (h0 : (a1 : Int) ≤ hour) (h1 : hour ≤ 300) :
    statB t l a0 a1 hour s = true ↔ (s = a0 ∧ hour ≤ (a1 : Int) + t) ∨ ∃ x ∈ hoursFrom (fun h => arrB t l a0 a1 s h) 301 0, x ≤ hour ∧ hour ≤ x + t := by
  unfold statB
  rw [someH_iff]
  constructor
  · rintro ⟨h, g1, g2, g3, g4⟩
    unfold tmB at g4
    rw [Bool.or_eq_true] at g4
    rcases g4 with g4 | g4
    · exact .inr ⟨(h : Int), (hours_mem _ _ _ _).2 ⟨h, by omega, by omega, g4, rfl⟩, by omega, by omega⟩
    · simp only [Bool.and_eq_true, decide_eq_true_eq] at g4
      exact .inl ⟨g4.1, by omega⟩
  · rintro (⟨g1, g2⟩ | ⟨x, hx, g1, g2⟩)
    · refine ⟨a1, by omega, h0, by omega, ?_⟩
      unfold tmB
      rw [Bool.or_eq_true]
      right
      simp [g1]
    · obtain ⟨k, k1, k2, k3, rfl⟩ := (hours_mem _ _ _ _).1 hx
      refine ⟨k, by omega, by omega, by omega, ?_⟩
      unfold tmB
      rw [Bool.or_eq_true]
      exact .inl k3
/-- Where it stands, or where it can go, it can be. -/
theorem place_here (t : Int) (l : List S44) (a0 a1 : Nat) (hour : Nat) (ht : 0 ≤ t) (h1 : hour ≤ 300) (hg : arrB t l a0 a1 a0 hour = true) : statB t l a0 a1 (hour : Int) a0 = true := by
  unfold statB
  rw [someH_iff]
  refine ⟨hour, by omega, by omega, h1, ?_⟩
  unfold tmB
  rw [hg]
  rfl
theorem lane_most (t : Int) (l : List S44) (a0 a1 : Nat) (hour : Int) (i : Nat) (h : laneB t l a0 a1 hour i = true) : 2 ≤ (l.getD i z44).f3 := by
  unfold laneB at h
  rw [Bool.and_eq_true, decide_eq_true_eq] at h
  omega
/-- What is ahead of the place that a scan is put to comes no later, what is behind it no earlier. -/
theorem scanAt_spec (x : S31) (out : List S31) : ∀ j : Nat, j ≤ out.length → (∀ i, scanAt x out j ≤ i → i < j → befS x (out.getD i z31) = true) ∧ (0 < scanAt x out j → befS x (out.getD (scanAt x out j - 1) z31) = false)
  | 0, _ => by
    rw [scanAt]
    exact ⟨fun i h1 h2 => by omega, fun h => by omega⟩
  | j + 1, hj => by
    obtain ⟨g1, g2⟩ := scanAt_spec x out j (by omega)
    rw [scanAt]
    by_cases h : befS x (out.getD j z31) = true
    · rw [if_pos h]
      refine ⟨fun i h1 h2 => ?_, g2⟩
      by_cases e : i = j
      · rw [e]; exact h
      · exact g1 i h1 (by omega)
    · rw [if_neg h]
      exact ⟨fun i h1 h2 => by omega, fun _ => by simpa using h⟩
theorem bef_le {x y : S31} (h : befS x y = true) : x.f1 ≤ y.f1 := by
  unfold befS at h
  simp only [Bool.or_eq_true, Bool.and_eq_true, decide_eq_true_eq, beq_iff_eq] at h
  omega
theorem bef_ge {x y : S31} (h : befS x y = false) : y.f1 ≤ x.f1 := by
  unfold befS at h
  simp only [Bool.or_eq_false_iff, decide_eq_false_iff_not] at h
  omega
/-- In their order: hours do not fall. -/
def Risen (out : List S31) : Prop := out.Pairwise (fun x y => x.f1 ≤ y.f1)
theorem insS_mem (out : List S31) (x y : S31) : y ∈ insS out x ↔ y = x ∨ y ∈ out := by
  unfold insS
  have := List.take_append_drop (scanAt x out out.length) out
  rw [List.nil_append, List.mem_append, List.mem_append, List.mem_singleton]
  constructor
  · rintro ((h | h) | h)
    · exact .inr (List.mem_of_mem_take h)
    · exact .inl h
    · exact .inr (List.mem_of_mem_drop h)
  · rintro (h | h)
    · exact .inl (.inr h)
    · rw [← this, List.mem_append] at h
      rcases h with h | h
      · exact .inl (.inl h)
      · exact .inr h
theorem insS_risen {out : List S31} (h : Risen out) (x : S31) : Risen (insS out x) := by
  unfold insS Risen at *
  obtain ⟨g1, g2⟩ := scanAt_spec x out out.length (Nat.le_refl _)
  have hle := scanAt_le x out out.length
  obtain ⟨p, hp⟩ : ∃ p, scanAt x out out.length = p := ⟨_, rfl⟩
  rw [hp] at g1 g2 hle ⊢
  have hT : ∀ y ∈ out.take p, y.f1 ≤ x.f1 := fun y hy => by
    obtain ⟨j, hj, rfl⟩ := List.getElem_of_mem hy
    rw [List.length_take] at hj
    have hb := bef_ge (g2 (by omega))
    rw [List.getElem_take]
    by_cases e : j = p - 1
    · subst e
      rw [List.getD_eq_getElem?_getD, List.getElem?_eq_getElem (by omega)] at hb
      exact hb
    · have := List.pairwise_iff_getElem.1 h j (p - 1) (by omega) (by omega) (by omega)
      rw [List.getD_eq_getElem?_getD, List.getElem?_eq_getElem (by omega)] at hb
      exact Int.le_trans this hb
  have hD : ∀ y ∈ out.drop p, x.f1 ≤ y.f1 := fun y hy => by
    obtain ⟨j, hj, rfl⟩ := List.getElem_of_mem hy
    rw [List.length_drop] at hj
    have hb := bef_le (g1 (p + j) (by omega) (by omega))
    rw [List.getElem_drop]
    rw [List.getD_eq_getElem?_getD, List.getElem?_eq_getElem (by omega)] at hb
    exact hb
  have hTD : ∀ y ∈ out.take p, ∀ z ∈ out.drop p, y.f1 ≤ z.f1 := fun y hy z hz => Int.le_trans (hT y hy) (hD z hz)
  rw [List.nil_append, List.pairwise_append, List.pairwise_append]
  refine ⟨⟨h.sublist (List.take_sublist _ _), List.pairwise_singleton _ _, fun y hy z hz => ?_⟩, h.sublist (List.drop_sublist _ _), fun y hy z hz => ?_⟩
  · rw [List.mem_singleton.1 hz]; exact hT y hy
  · rcases List.mem_append.1 hy with hy | hy
    · exact hTD y hy z hz
    · rw [List.mem_singleton.1 hy]; exact hD z hz
theorem insAll_risen (ss : List S31) : ∀ i, Risen (insAll ss i)
  | 0 => List.Pairwise.nil
  | i + 1 => by rw [insAll]; exact insS_risen (insAll_risen ss i) _
theorem insAll_mem (ss : List S31) : ∀ i, i ≤ ss.length → ∀ y ∈ insAll ss i, y ∈ ss
  | 0, _, y, hy => absurd hy List.not_mem_nil
  | i + 1, hi, y, hy => by
    rw [insAll, insS_mem] at hy
    rcases hy with rfl | hy
    · rw [List.getD_eq_getElem?_getD, List.getElem?_eq_getElem (by omega)]; exact List.getElem_mem _
    · exact insAll_mem ss i (by omega) y hy
theorem risen_at {out : List S31} (h : Risen out) (i : Nat) (hi : i + 1 < out.length) : (out.getD i z31).f1 ≤ (out.getD (i + 1) z31).f1 := by
  have := List.pairwise_iff_getElem.1 h i (i + 1) (by omega) hi (by omega)
  rw [List.getD_eq_getElem?_getD, List.getElem?_eq_getElem (by omega), List.getD_eq_getElem?_getD, List.getElem?_eq_getElem hi]
  exact this
/-- Who is late cannot have come: the earliest hour lies behind, or there is none. -/
theorem late_soon (t : Int) (l : List S44) (ss : List S31) (b : S31) (st : Nat) (pr : Nat) (hb : ss.getLast? = some b) (b0 : 0 ≤ b.f0) (b1 : 0 ≤ b.f1) (hp : pr ≤ 300)
    (hany : ss.any (lateAt (st : Int) (pr : Int)) = false) (hno : decide (0 ≤ firstH (fun h => arrB t l b.f0.toNat b.f1.toNat st h) (pr + 1) 0) = false) :
    earl t l b.f0.toNat b.f1.toNat st < 0 ∨ (pr : Int) < earl t l b.f0.toNat b.f1.toNat st := by
  have hmem : b ∈ ss := List.mem_of_getLast? hb
  unfold earl
  by_cases e : st = b.f0.toNat
  · rw [if_pos e]
    right
    have h1 : lateAt (st : Int) (pr : Int) b = false := by
      cases hq : lateAt (st : Int) (pr : Int) b with
      | false => rfl
      | true => rw [List.any_eq_true.2 ⟨b, hmem, hq⟩] at hany; cases hany
    unfold lateAt at h1
    have h2 : (b.f0 == (st : Int)) = true := by rw [beq_iff_eq]; omega
    rw [h2, Bool.true_and, decide_eq_false_iff_not] at h1
    omega
  · rw [if_neg e]
    have h1 : ¬ 0 ≤ firstH (fun h => arrB t l b.f0.toNat b.f1.toNat st h) (pr + 1) 0 := of_decide_eq_false hno
    rw [fH_iff] at h1
    by_cases h2 : 0 ≤ firstH (fun h => arrB t l b.f0.toNat b.f1.toNat st h) 301 0
    · right
      have key : ∀ (n k : Nat), 0 ≤ firstH (fun h => arrB t l b.f0.toNat b.f1.toNat st h) n k → ∃ h : Nat, k ≤ h ∧ h < k + n ∧ arrB t l b.f0.toNat b.f1.toNat st h = true ∧ firstH (fun h => arrB t l b.f0.toNat b.f1.toNat st h) n k = (h : Int) := by
        intro n
        induction n with
        | zero => intro k hk; rw [firstH] at hk; omega
        | succ n ih =>
          intro k hk
          rw [firstH] at hk ⊢
          by_cases g : arrB t l b.f0.toNat b.f1.toNat st k = true
          · rw [if_pos g]; exact ⟨k, Nat.le_refl _, by omega, g, rfl⟩
          · rw [if_neg g] at hk ⊢
            obtain ⟨h, q1, q2, q3, q4⟩ := ih (k + 1) hk
            exact ⟨h, by omega, by omega, q3, q4⟩
      obtain ⟨h, q1, q2, q3, q4⟩ := key 301 0 h2
      rw [q4]
      by_cases hh : h ≤ pr
      · exact absurd ⟨h, by omega, by omega, q3⟩ h1
      · omega
    · left; omega
end Go.Proofs.Yticfecncdpdanaa.Q
