/- That processing hour by hour, lane by lane, finds all arrivals. -/
import Derived.Test.YtgchiepnodoohaaHSGo
set_option linter.unusedVariables false
namespace Go.Proofs.Ytgchiepnodoohaa.Q
theorem Arr.gt {t : Int} {l : List S82} {a0 h0 s h : Nat} (hl : ∀ x ∈ l, laneV x) (h1 : Arr t l a0 h0 s h) : h0 < h ∧ s < 8 ∧ h < 301 := by
  induction h1 with
  | first x hx k hf hg =>
    have hv := hl x hx
    obtain ⟨v0, v1, v2, v3, v4, _⟩ := hv
    unfold goes at hg
    omega
  | more x hx k k' hp hg ih =>
    have hv := hl x hx
    obtain ⟨v0, v1, v2, v3, v4, _⟩ := hv
    unfold goes at hg
    omega
def Src (t : Int) (L : List S82) (a0 h0 s h : Nat) : Prop := (s = a0 ∧ h = h0) ∨ Arr t L a0 h0 s h
/-- Ahead of hour H's lanes, but for those in pre. -/
structure Sent (t : Int) (L : List S82) (a0 h0 H : Nat) (pre : List S82) (G : List Bool) : Prop where
  out : ∀ s k, s < 8 → k < 301 → (gat G s k = true ↔ (∃ x ∈ L, ∃ h, h < H ∧ Src t L a0 h0 x.f0.toNat h ∧ goes t x.f2 x.f3 h k ∧ x.f1 = (s : Int)) ∨ (∃ x ∈ pre, Src t L a0 h0 x.f0.toNat H ∧ goes t x.f2 x.f3 H k ∧ x.f1 = (s : Int)))
variable {t : Int} {L : List S82} {a0 h0 : Nat}
theorem Src.ge {s h : Nat} (hl : ∀ x ∈ L, laneV x) (h1 : Src t L a0 h0 s h) : h0 ≤ h := by
  rcases h1 with ⟨_, h1⟩ | h1
  · omega
  · have := (h1.gt hl).1
    omega
theorem Sent.start (hl : ∀ x ∈ L, laneV x) : Sent t L a0 h0 h0 [] noTimes := ⟨fun s k hs hk => by
  unfold gat
  rw [noTimes_get]
  constructor
  · intro h
    cases h
  · rintro (⟨x, hx, h, h1, h2, _⟩ | ⟨x, hx, _⟩)
    · have := h2.ge hl
      omega
    · cases hx⟩
theorem Sent.arr {H : Nat} {pre : List S82} {G : List Bool} (hl : ∀ x ∈ L, laneV x) (hp : ∀ x ∈ pre, x ∈ L) (h : Sent t L a0 h0 H pre G) {s k : Nat} (hs : s < 8) (hk : k < 301) (hH : k ≤ H) : gat G s k = true ↔ Arr t L a0 h0 s k := by
  rw [h.out s k hs hk]
  constructor
  · rintro (⟨x, hx, j, h1, h2, h3, h4⟩ | ⟨x, hx, h2, h3, h4⟩)
    · have hv := hl x hx
      obtain ⟨v0, v1, v2, v3, v4, _⟩ := hv
      exact Arr.step hx (hl x hx) h2 (by omega) h3 h4
    · have hv := hl x (hp x hx)
      obtain ⟨v0, v1, v2, v3, v4, _⟩ := hv
      exact Arr.step (hp x hx) (hl x (hp x hx)) h2 (by omega) h3 h4
  · intro h1
    left
    cases h1 with
    | first x hx k hf hg =>
      have hv := hl x hx
      obtain ⟨v0, v1, v2, v3, v4, _⟩ := hv
      refine ⟨x, hx, h0, ?_, .inl ⟨hf, rfl⟩, hg, by omega⟩
      unfold goes at hg
      omega
    | more x hx j k hp hg =>
      have hv := hl x hx
      obtain ⟨v0, v1, v2, v3, v4, _⟩ := hv
      refine ⟨x, hx, j, ?_, .inr hp, hg, by omega⟩
      unfold goes at hg
      omega
theorem Sent.skip {H : Nat} {pre : List S82} {G : List Bool} (h : Sent t L a0 h0 H pre G) (x : S82) (hx : ¬ Src t L a0 h0 x.f0.toNat H) : Sent t L a0 h0 H (pre ++ [x]) G := ⟨fun s k hs hk => by
  rw [h.out s k hs hk]
  constructor
  · rintro (h1 | ⟨y, hy, h1⟩)
    · exact .inl h1
    · exact .inr ⟨y, List.mem_append_left _ hy, h1⟩
  · rintro (h1 | ⟨y, hy, h1⟩)
    · exact .inl h1
    · rcases List.mem_append.1 hy with hy | hy
      · exact .inr ⟨y, hy, h1⟩
      · obtain rfl := List.mem_singleton.1 hy
        exact absurd h1.1 hx⟩
theorem Sent.add {H : Nat} {pre : List S82} {G G' : List Bool} (h : Sent t L a0 h0 H pre G) (x : S82) (g : Nat) (hg : x.f1 = (g : Int)) (hx : Src t L a0 h0 x.f0.toNat H) (ha : Along t x.f2 x.f3 H (g * 301) G G') : Sent t L a0 h0 H (pre ++ [x]) G' := ⟨fun s k hs hk => by
  have h1 := ha (s * 301 + k)
  have h2 := h.out s k hs hk
  unfold gat at h2 ⊢
  rw [h1, h2]
  constructor
  · rintro ((h3 | ⟨y, hy, h3⟩) | ⟨k', hgo, he⟩)
    · exact .inl h3
    · exact .inr ⟨y, List.mem_append_left _ hy, h3⟩
    · have := goes_le hgo
      have e1 : g = s := by omega
      have e2 : k' = k := by omega
      subst e1 e2
      exact .inr ⟨x, List.mem_append_right _ List.mem_cons_self, hx, hgo, hg⟩
  · rintro (h3 | ⟨y, hy, h3, h4, h5⟩)
    · exact .inl (.inl h3)
    · rcases List.mem_append.1 hy with hy | hy
      · exact .inl (.inr ⟨y, hy, h3, h4, h5⟩)
      · obtain rfl := List.mem_singleton.1 hy
        exact .inr ⟨k, h4, by omega⟩⟩
theorem Sent.next {H : Nat} {G : List Bool} (h : Sent t L a0 h0 H L G) : Sent t L a0 h0 (H + 1) [] G := ⟨fun s k hs hk => by
  rw [h.out s k hs hk]
  constructor
  · rintro (⟨x, hx, j, h1, h2⟩ | ⟨x, hx, h2⟩)
    · exact .inl ⟨x, hx, j, by omega, h2⟩
    · exact .inl ⟨x, hx, H, by omega, h2⟩
  · rintro (⟨x, hx, j, h1, h2⟩ | ⟨x, hx, _⟩)
    · rcases Nat.lt_succ_iff_lt_or_eq.1 h1 with h1 | rfl
      · exact .inl ⟨x, hx, j, h1, h2⟩
      · exact .inr ⟨x, hx, h2⟩
    · cases hx⟩
theorem Sent.done {G : List Bool} (hl : ∀ x ∈ L, laneV x) (h : Sent t L a0 h0 301 [] G) : ArrT t L a0 h0 G := fun s k hs hk => h.arr hl (fun x hx => by cases hx) hs hk (by omega)
/-- Lanes that are not of a station. -/
def but (wo : Int) (l : List S82) : List S82 := l.filter fun x => x.f0 != wo && x.f1 != wo
theorem but_mem {wo : Int} {l : List S82} {x : S82} (h : x ∈ but wo l) : x ∈ l := (List.mem_filter.1 h).1
theorem but_snoc (wo : Int) (l : List S82) (x : S82) : but wo (l ++ [x]) = if (x.f0 != wo && x.f1 != wo) = true then but wo l ++ [x] else but wo l := by
  unfold but
  rw [List.filter_append, List.filter_cons]
  split <;> simp
theorem but_none {l : List S82} (hl : ∀ x ∈ l, laneV x) : but (-1) l = l := by
  unfold but
  rw [List.filter_eq_self]
  intro x hx
  have hv := hl x hx
  obtain ⟨v0, v1, v2, v3, v4, _⟩ := hv
  simp
  omega
end Go.Proofs.Ytgchiepnodoohaa.Q
