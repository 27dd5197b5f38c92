/- Amounts that can be paid with stamps of some values: plain numbers, no program. -/
set_option linter.unusedVariables false
set_option linter.unusedSimpArgs false
namespace Go.Proofs.Ytlcnjpibfjhibaa.Pay
inductive Paid (vs : List Int) : Int → Prop
  | zero : Paid vs 0
  | step {a v : Int} : Paid vs a → v ∈ vs → Paid vs (a + v)
theorem Paid.nonneg {vs : List Int} (hv : ∀ v ∈ vs, 1 ≤ v) {a : Int} (h : Paid vs a) : 0 ≤ a := by
  induction h with
  | zero => exact Int.le_refl _
  | step _ hm ih => have := hv _ hm; omega
theorem Paid.add {vs : List Int} {a b : Int} (ha : Paid vs a) (hb : Paid vs b) : Paid vs (a + b) := by
  induction hb with
  | zero => simpa using ha
  | step _ hm ih => rw [← Int.add_assoc]; exact .step ih hm
theorem Paid.mul {vs : List Int} {v : Int} (hv : v ∈ vs) : ∀ k : Nat, Paid vs (v * k)
  | 0 => by simpa using Paid.zero
  | k + 1 => by
    have := Paid.step (Paid.mul hv k) hv
    rwa [Int.natCast_add, Int.mul_add, show v * ((1 : Nat) : Int) = v by simp]
theorem paid_iff {vs : List Int} (hv : ∀ v ∈ vs, 1 ≤ v) (a : Int) : Paid vs a ↔ a = 0 ∨ ∃ v ∈ vs, v ≤ a ∧ Paid vs (a - v) := by
  constructor
  · intro h
    cases h with
    | zero => exact .inl rfl
    | step h hm =>
      rename_i b v
      have := h.nonneg hv
      exact .inr ⟨v, hm, by omega, by rw [show b + v - v = b by omega]; exact h⟩
  · rintro (rfl | ⟨v, hm, _, h⟩)
    · exact .zero
    · have := Paid.step h hm
      rwa [show a - v + v = a by omega] at this
theorem paid_one {vs : List Int} (hv : ∀ v ∈ vs, 1 ≤ v) {a : Int} (h : Paid vs a) (ha : 1 ≤ a) : ∃ v ∈ vs, v ≤ a := by
  rcases (paid_iff hv a).1 h with rfl | ⟨v, hm, hle, _⟩
  · omega
  · exact ⟨v, hm, hle⟩

/-- Residues: which are set, and to what. -/
structure Least (v0 : Int) (vs : List Int) (L : Int → Int) : Prop where
  zero : L 0 = 0
  paid : ∀ r, 0 ≤ r → r < v0 → 0 ≤ L r → Paid vs (L r) ∧ L r % v0 = r
  closed : ∀ r, 0 ≤ r → r < v0 → 0 ≤ L r → ∀ v ∈ vs, 0 ≤ L ((r + v) % v0) ∧ L ((r + v) % v0) ≤ L r + v
theorem Least.le {v0 : Int} {vs : List Int} {L : Int → Int} (h : Least v0 vs L) (h0 : 1 ≤ v0) {a : Int} (ha : Paid vs a) : 0 ≤ L (a % v0) ∧ L (a % v0) ≤ a := by
  induction ha with
  | zero => rw [Int.zero_emod, h.zero]; omega
  | step hb hm ih =>
    rename_i b v
    have := h.closed (b % v0) (Int.emod_nonneg _ (by omega)) (Int.emod_lt_of_pos _ (by omega)) ih.1 v hm
    rw [Int.emod_add_emod] at this
    omega
theorem Least.iff {v0 : Int} {vs : List Int} {L : Int → Int} (h : Least v0 vs L) (h0 : 1 ≤ v0) (hm : v0 ∈ vs) (a : Int) : Paid vs a ↔ 0 ≤ L (a % v0) ∧ L (a % v0) ≤ a := by
  refine ⟨h.le h0, fun ⟨h1, h2⟩ => ?_⟩
  obtain ⟨p, e⟩ := h.paid (a % v0) (Int.emod_nonneg _ (by omega)) (Int.emod_lt_of_pos _ (by omega)) h1
  have hd : v0 ∣ a - L (a % v0) := by
    apply Int.dvd_of_emod_eq_zero
    rw [Int.sub_emod, e, Int.sub_self, Int.zero_emod]
  obtain ⟨k, hk⟩ := hd
  have hk0 : 0 ≤ k := by
    rcases Int.lt_or_le k 0 with hlt | hge
    · have : v0 * k ≤ v0 * (-1) := Int.mul_le_mul_of_nonneg_left (by omega) (by omega)
      omega
    · exact hge
  have := Paid.add p (Paid.mul hm k.toNat)
  rw [show ((k.toNat : Nat) : Int) = k by omega, ← hk] at this
  rwa [show L (a % v0) + (a - L (a % v0)) = a by omega] at this
/-- What leads from a residue that is set to one that is set. -/
def Leads (v0 : Int) (L : Int → Int) (x : Int) : Prop := ∀ r, 0 ≤ r → r < v0 → 0 ≤ L r → 0 ≤ L ((r + x) % v0)
theorem Leads.zero (v0 : Int) (L : Int → Int) : Leads v0 L 0 := fun r h1 h2 h3 => by rw [Int.add_zero, Int.emod_eq_of_lt h1 h2]; exact h3
theorem Leads.add {v0 : Int} (h0 : 1 ≤ v0) {L : Int → Int} {x y : Int} (hx : Leads v0 L x) (hy : Leads v0 L y) : Leads v0 L (x + y) := fun r h1 h2 h3 => by
  have := hy ((r + x) % v0) (Int.emod_nonneg _ (by omega)) (Int.emod_lt_of_pos _ (by omega)) (hx r h1 h2 h3)
  rwa [Int.emod_add_emod, Int.add_assoc] at this
theorem Leads.mulN {v0 : Int} (h0 : 1 ≤ v0) {L : Int → Int} {x : Int} (hx : Leads v0 L x) : ∀ k : Nat, Leads v0 L (x * k)
  | 0 => by simpa using Leads.zero v0 L
  | k + 1 => by
    have := Leads.add h0 (Leads.mulN h0 hx k) hx
    rwa [Int.natCast_add, Int.mul_add, show x * ((1 : Nat) : Int) = x by simp]
theorem Leads.congr {v0 : Int} (h0 : 1 ≤ v0) {L : Int → Int} {x y : Int} (hx : Leads v0 L x) (k : Int) (h : y = x + v0 * k) : Leads v0 L y := fun r h1 h2 h3 => by
  have := hx r h1 h2 h3
  rw [h, ← Int.add_assoc, Int.add_mul_emod_self_left]
  exact this
theorem Leads.neg {v0 : Int} (h0 : 1 ≤ v0) {L : Int → Int} {x : Int} (hx : Leads v0 L x) : Leads v0 L (-x) := by
  refine Leads.congr h0 (Leads.mulN h0 hx (v0 - 1).toNat) (-x) ?_
  rw [show (((v0 - 1).toNat : Nat) : Int) = v0 - 1 by omega, Int.mul_sub, Int.mul_one, Int.mul_neg, Int.mul_comm v0 x]
  omega
theorem Leads.mul {v0 : Int} (h0 : 1 ≤ v0) {L : Int → Int} {x : Int} (hx : Leads v0 L x) (k : Int) : Leads v0 L (x * k) := by
  rcases Int.lt_or_le k 0 with hlt | hge
  · have := Leads.neg h0 (Leads.mulN h0 hx (-k).toNat)
    rw [show (((-k).toNat : Nat) : Int) = -k by omega, Int.mul_neg, Int.neg_neg] at this
    exact this
  · have := Leads.mulN h0 hx k.toNat
    rwa [show ((k.toNat : Nat) : Int) = k by omega] at this
theorem Leads.gcd {v0 : Int} (h0 : 1 ≤ v0) {L : Int → Int} : ∀ (a b : Nat), Leads v0 L a → Leads v0 L b → Leads v0 L (Nat.gcd a b : Nat) := by
  intro a
  induction a using Nat.strongRecOn with
  | ind a ih =>
    intro b ha hb
    rcases Nat.eq_zero_or_pos a with rfl | hp
    · rw [Nat.gcd_zero_left]; exact hb
    · rw [Nat.gcd_rec]
      refine ih (b % a) (Nat.mod_lt _ hp) a ?_ ha
      have e : ((b % a : Nat) : Int) = (b : Int) + (a : Int) * (-((b / a : Nat) : Int)) := by
        have := Nat.div_add_mod b a
        rw [Int.mul_neg]
        have h2 : ((a * (b / a) + b % a : Nat) : Int) = b := by rw [this]
        rw [Int.natCast_add, Int.natCast_mul] at h2
        omega
      rw [e]
      exact Leads.add h0 hb (Leads.mul h0 ha _)
/-- The greatest common divisor of a list. -/
def gcdL (vs : List Int) : Nat := vs.foldl (fun g v => Nat.gcd g v.toNat) 0
theorem Leads.gcdL {v0 : Int} (h0 : 1 ≤ v0) {L : Int → Int} (vs : List Int) (hv : ∀ v ∈ vs, 0 ≤ v ∧ Leads v0 L v) : Leads v0 L (gcdL vs : Nat) := by
  have : ∀ (vs : List Int) (g : Nat), Leads v0 L g → (∀ v ∈ vs, 0 ≤ v ∧ Leads v0 L v) → Leads v0 L (vs.foldl (fun g v => Nat.gcd g v.toNat) g : Nat) := by
    intro vs
    induction vs with
    | nil => exact fun g hg _ => hg
    | cons v vs ih =>
      intro g hg h
      obtain ⟨h1, h2⟩ := h v List.mem_cons_self
      exact ih _ (Leads.gcd h0 _ _ hg (by rwa [show ((v.toNat : Nat) : Int) = v by omega])) (fun u hu => h u (List.mem_cons_of_mem _ hu))
  exact this vs 0 (by simpa using Leads.zero v0 L) hv
theorem Least.all {v0 : Int} {vs : List Int} {L : Int → Int} (h : Least v0 vs L) (h0 : 1 ≤ v0) (hv : ∀ v ∈ vs, 0 ≤ v) (hg : gcdL vs = 1) : ∀ r, 0 ≤ r → r < v0 → 0 ≤ L r := by
  have h1 : Leads v0 L ((1 : Nat) : Int) := by
    rw [← hg]
    exact Leads.gcdL h0 vs (fun v hm => ⟨hv v hm, fun r r1 r2 r3 => (h.closed r r1 r2 r3 v hm).1⟩)
  have key : ∀ n : Nat, (n : Int) < v0 → 0 ≤ L n := by
    intro n
    induction n with
    | zero => intro _; rw [Int.ofNat_zero, h.zero]; omega
    | succ n ih =>
      intro hn
      have := h1 n (by omega) (by omega) (ih (by omega))
      rw [show (n : Int) + ((1 : Nat) : Int) = ((n + 1 : Nat) : Int) by omega, Int.emod_eq_of_lt (by omega) hn] at this
      exact this
  intro r r1 r2
  have := key r.toNat (by omega)
  rwa [show ((r.toNat : Nat) : Int) = r by omega] at this
/-- Behind the greatest gap all can be paid, and the gap cannot. -/
theorem Least.gap {v0 : Int} {vs : List Int} {L : Int → Int} (h : Least v0 vs L) (h0 : 2 ≤ v0) (hm : v0 ∈ vs) (hv : ∀ v ∈ vs, 2 ≤ v) (hg : gcdL vs = 1) (most : Int) (h1 : ∀ r, 0 ≤ r → r < v0 → L r ≤ most) (h2 : ∃ r, 0 ≤ r ∧ r < v0 ∧ L r = most) :
    1 ≤ most - v0 ∧ ¬ Paid vs (most - v0) ∧ ∀ a, most - v0 < a → Paid vs a := by
  have all := h.all (by omega) (fun v hv' => by have := hv v hv'; omega) hg
  have hv1 : ∀ v ∈ vs, 1 ≤ v := fun v hv' => by have := hv v hv'; omega
  have low : v0 + 1 ≤ L 1 := by
    obtain ⟨p, e⟩ := h.paid 1 (by omega) (by omega) (all 1 (by omega) (by omega))
    have hn := p.nonneg hv1
    rcases Int.lt_or_le (L 1) v0 with hlt | hge
    · rw [Int.emod_eq_of_lt hn hlt] at e
      rw [e] at p
      obtain ⟨v, hvm, hv2⟩ := paid_one hv1 p (by omega)
      have := hv v hvm
      omega
    · rcases Int.lt_or_le v0 (L 1) with h3 | h3
      · omega
      · have e2 : L 1 = v0 := by omega
        rw [e2, Int.emod_self] at e
        omega
  have hl := h1 1 (by omega) (by omega)
  obtain ⟨r, r1, r2, r3⟩ := h2
  refine ⟨by omega, fun hp => ?_, fun a ha => ?_⟩
  · have hle := (h.iff (by omega) hm _).1 hp
    have e : (most - v0) % v0 = r := by
      rw [Int.sub_emod_right, ← r3]
      exact (h.paid r r1 r2 (all r r1 r2)).2
    rw [e] at hle
    omega
  · refine (h.iff (by omega) hm _).2 ?_
    have q1 := Int.emod_nonneg a (show v0 ≠ 0 by omega)
    have q2 := Int.emod_lt_of_pos a (show 0 < v0 by omega)
    have q3 := all _ q1 q2
    refine ⟨q3, ?_⟩
    have q4 := h1 _ q1 q2
    have q5 := (h.paid _ q1 q2 q3).2
    rcases Int.lt_or_le a (L (a % v0)) with hlt | hge
    · exfalso
      have hd : v0 ∣ L (a % v0) - a := by
        apply Int.dvd_of_emod_eq_zero
        rw [Int.sub_emod, q5, Int.sub_self, Int.zero_emod]
      have := Int.le_of_dvd (by omega) hd
      omega
    · exact hge
end Go.Proofs.Ytlcnjpibfjhibaa.Pay
