/- The pure statement of FnReach: each amount up to the reach can be paid with so many stamps and the next one cannot; the best value, added, has the reach that is told, and no value has a greater one. -/
import Derived.Test.YtlcnjpibfjhibaaReachAll
import Derived.Test.YtlcnjpibfjhibaaQL
import Derived.OpenShut
set_option linter.unusedVariables false
set_option linter.unusedSimpArgs false
namespace Go.Proofs.Ytlcnjpibfjhibaa.Q
open Go.RowKit Go.Proofs.YtlcnjpibfjhibaaW.PrintWords Go.Proofs.Ytlcnjpibfjhibaa.Loops
open Go.Proofs.Ytlcnjpibfjhibaa.Pay
theorem Vals.le {vs : List Int} (h : Vals vs) (i : Nat) : ∀ d, i + d < vs.length → vs.getD i 0 ≤ vs.getD (i + d) 0
  | 0, _ => Int.le_refl _
  | d + 1, hd => by
    have h1 := Vals.le h i d (by omega)
    have h2 := h.rise (i + d) (by omega)
    rw [show i + (d + 1) = i + d + 1 by omega]
    omega
theorem first_one {vs : List Int} (h : Vals vs) : 1 ∈ vs ↔ vs.getD 0 0 = 1 := by
  have hl := h.len1
  constructor
  · intro hm
    obtain ⟨i, hi, e⟩ := List.getElem_of_mem hm
    have h1 := h.le 0 i (by omega)
    rw [Nat.zero_add, List.getD_eq_getElem?_getD (i := i), List.getElem?_eq_getElem hi] at h1
    simp only [Option.getD_some] at h1
    have := (h.mem _ (mem_at (vs := vs) (i := 0) (by omega))).1
    omega
  · intro e
    rw [← e]
    exact mem_at (by omega)
/-- Where a value is put in. -/
theorem place {vs : List Int} (h : Vals vs) (v : Int) (hn : v ∉ vs) : ∃ p : Nat, p ≤ vs.length ∧ (∀ i, i < p → vs.getD i 0 < v) ∧ ∀ i, p ≤ i → i < vs.length → v < vs.getD i 0 := by
  have key : ∀ n, n ≤ vs.length → ∃ p : Nat, p ≤ n ∧ (∀ i, i < p → vs.getD i 0 < v) ∧ ∀ i, p ≤ i → i < n → v < vs.getD i 0 := by
    intro n
    induction n with
    | zero => intro _; exact ⟨0, Nat.le_refl _, fun i hi => by omega, fun i h1 h2 => by omega⟩
    | succ n ih =>
      intro hn1
      obtain ⟨p, p1, p2, p3⟩ := ih (by omega)
      have hne : vs.getD n 0 ≠ v := fun e => hn (by rw [← e]; exact mem_at (by omega))
      by_cases hp : p = n
      · by_cases hlt : vs.getD n 0 < v
        · refine ⟨n + 1, Nat.le_refl _, fun i hi => ?_, fun i h1 h2 => by omega⟩
          by_cases hin : i = n
          · rw [hin]; exact hlt
          · exact p2 i (by omega)
        · refine ⟨p, by omega, p2, fun i h1 h2 => ?_⟩
          have : i = n := by omega
          rw [this]
          omega
      · refine ⟨p, by omega, p2, fun i h1 h2 => ?_⟩
        by_cases hin : i = n
        · have h4 := p3 p (Nat.le_refl _) (by omega)
          have h5 := h.le p (n - p) (by omega)
          rw [show p + (n - p) = n by omega] at h5
          rw [hin]
          omega
        · exact p3 i h1 (by omega)
  exact key vs.length (Nat.le_refl _)
theorem ins_get (vs : List Int) (v : Int) (p i : Nat) (hp : p ≤ vs.length) : (vs.take p ++ [v] ++ vs.drop p).getD i 0 = if i < p then vs.getD i 0 else if i = p then v else vs.getD (i - 1) 0 := by
  have hl : (vs.take p).length = p := by rw [List.length_take]; omega
  have hl2 : (vs.take p ++ [v]).length = p + 1 := by rw [List.length_append, hl, List.length_singleton]
  simp only [List.getD_eq_getElem?_getD]
  by_cases h1 : i < p
  · rw [if_pos h1, List.getElem?_append_left (by omega), List.getElem?_append_left (by omega), List.getElem?_take_of_lt h1]
  · rw [if_neg h1]
    by_cases h2 : i = p
    · rw [if_pos h2, List.getElem?_append_left (by omega), List.getElem?_append_right (by omega), hl, h2, Nat.sub_self]
      rfl
    · rw [if_neg h2, List.getElem?_append_right (by omega), hl2, List.getElem?_drop, show p + (i - (p + 1)) = i - 1 by omega]
theorem ins_mem (vs : List Int) (v : Int) (p : Nat) (x : Int) : x ∈ vs.take p ++ [v] ++ vs.drop p ↔ x ∈ vs ++ [v] := by
  have e : x ∈ vs ↔ x ∈ vs.take p ∨ x ∈ vs.drop p := by
    rw [← List.mem_append, List.take_append_drop]
  simp only [List.mem_append, e]
  constructor
  · rintro ((h | h) | h)
    · exact .inl (.inl h)
    · exact .inr h
    · exact .inl (.inr h)
  · rintro ((h | h) | h)
    · exact .inl (.inl h)
    · exact .inr h
    · exact .inl (.inr h)
theorem ins_vals {vs : List Int} (h : Vals vs) (h7 : vs.length ≤ 7) {v : Int} (v1 : 1 ≤ v) (v2 : v ≤ 500) {p : Nat} (hp : p ≤ vs.length) (hlo : ∀ i, i < p → vs.getD i 0 < v) (hhi : ∀ i, p ≤ i → i < vs.length → v < vs.getD i 0) : Vals (vs.take p ++ [v] ++ vs.drop p) := by
  have hl : (vs.take p ++ [v] ++ vs.drop p).length = vs.length + 1 := by simp only [List.length_append, List.length_take, List.length_drop, List.length_singleton]; omega
  refine ⟨by omega, by omega, fun x hx => ?_, fun i hi => ?_⟩
  · exact val5_snoc h.mem v1 v2 x ((ins_mem vs v p x).1 hx)
  · rw [hl] at hi
    rw [ins_get vs v p i hp, ins_get vs v p (i + 1) hp]
    by_cases h1 : i + 1 < p
    · rw [if_pos h1, if_pos (by omega)]
      exact h.rise i (by omega)
    · rw [if_neg h1]
      by_cases h2 : i + 1 = p
      · rw [if_pos h2, if_pos (by omega)]
        exact hlo i (by omega)
      · rw [if_neg h2, if_neg (by omega)]
        by_cases h3 : i = p
        · rw [if_pos h3, Nat.add_sub_cancel]
          exact hhi i (by omega) (by omega)
        · rw [if_neg h3, Nat.add_sub_cancel]
          have := h.rise (i - 1) (by omega)
          rwa [show i - 1 + 1 = i by omega] at this
/-- The loop that puts a value in. -/
theorem loop2 {vs : List Int} (h : Vals vs) (h7 : vs.length ≤ 7) {s b m v : Int} {p : Nat} (hp : p ≤ vs.length) (hlo : ∀ i, i < p → vs.getD i 0 < v) (hhi : ∀ i, p ≤ i → i < vs.length → v < vs.getD i 0)
    (hend : Ev (fun k => laws_FnReach.l2 k vs s b m v (vs.take p) (vs.length : Int)) true) : Ev (fun k => laws_FnReach.l2 k vs s b m v (([] : List Int)) 0) true := by
  have hi : ∀ (d i : Nat), vs.length - i = d → p ≤ i → i ≤ vs.length → Ev (fun k => laws_FnReach.l2 k vs s b m v (vs.take p) (i : Int)) true := by
    intro d
    induction d with
    | zero =>
      intro i hd h1 h2
      rw [show i = vs.length by omega]
      exact hend
    | succ d ih =>
      intro i hd h1 h2
      have e2 : wrap64 ((i : Int) + 1) = ((i + 1 : Nat) : Int) := by rw [wrap_mid (by omega) (by omega)]; omega
      have e8 : rd vs (i : Int) = vs.getD i 0 := by unfold rd; rw [Int.toNat_natCast]
      have hv := hhi i h1 (by omega)
      refine Ev.step (fun k => ?_) (ih (i + 1) (by omega) (by omega) (by omega))
      simp only [laws_FnReach.l2]
      rw [if_pos (by omega), if_pos (by omega), e8, if_neg (by omega), e2]
  have lo : ∀ (d i : Nat), p - i = d → i ≤ p → Ev (fun k => laws_FnReach.l2 k vs s b m v (vs.take i) (i : Int)) true := by
    intro d
    induction d with
    | zero =>
      intro i hd h1
      obtain rfl : i = p := by omega
      exact hi _ i rfl (Nat.le_refl _) hp
    | succ d ih =>
      intro i hd h1
      have e2 : wrap64 ((i : Int) + 1) = ((i + 1 : Nat) : Int) := by rw [wrap_mid (by omega) (by omega)]; omega
      have e8 : rd vs (i : Int) = vs.getD i 0 := by unfold rd; rw [Int.toNat_natCast]
      have hv := hlo i (by omega)
      have hil : i < vs.length := by omega
      have hlen : (vs.take i).length < 17592186044416 := by rw [List.length_take]; omega
      have et : vs.take i ++ [vs.getD i 0] = vs.take (i + 1) := by
        rw [List.take_succ_eq_append_getElem hil, List.getD_eq_getElem?_getD, List.getElem?_eq_getElem hil]
        rfl
      refine Ev.step (fun k => ?_) (ih (i + 1) (by omega) (by omega))
      simp only [laws_FnReach.l2]
      rw [if_pos (by omega), if_pos (by omega), e8, if_pos hv, if_pos hlen, e2, et]
  exact lo _ 0 rfl (Nat.zero_le _)
/-- The law's last loop. -/
theorem loop1 {vs : List Int} (h : Vals vs) (h7 : vs.length ≤ 7) {s b m : Int} (s0 : 0 ≤ s) (s1 : s ≤ 12) (hB : BestInv vs s 501 b m) (hm0 : b ≠ 0) : Ev (fun k => laws_FnReach.l1 k vs s b m 1) true := by
  have key : ∀ (d v : Nat), 13 - v = d → 1 ≤ v → Ev (fun k => laws_FnReach.l1 k vs s b m (v : Int)) true := by
    intro d
    induction d with
    | zero =>
      intro v hd hv
      refine Ev.step (f := fun _ => some true) (fun k => ?_) (Ev.now _)
      simp only [laws_FnReach.l1]
      rw [if_neg (by omega)]
    | succ d ih =>
      intro v hd hv
      have e2 : wrap64 ((v : Int) + 1) = ((v + 1 : Nat) : Int) := by rw [wrap_mid (by omega) (by omega)]; omega
      have ih2 := ih (v + 1) (by omega) (by omega)
      refine Ev.step (f := fun k => (spec_HasNumber.f k vs (v : Int)).bind fun t => if t = true then laws_FnReach.l1 k vs s b m ((v + 1 : Nat) : Int) else laws_FnReach.l2 k vs s b m (v : Int) (([] : List Int)) 0) (fun k => ?_) (Ev.bind (HasNumber_is vs (v : Int) (by omega)) ?_)
      · simp only [laws_FnReach.l1]
        rw [if_pos (by omega), e2]
      · by_cases hc : vs.contains (v : Int) = true
        · simp only [if_pos hc]
          exact ih2
        · simp only [if_neg hc]
          have hcf : vs.contains (v : Int) = false := by simpa using hc
          have hnm : (v : Int) ∉ vs := fun h9 => hc (by simpa using h9)
          obtain ⟨p, p1, p2, p3⟩ := place h (v : Int) hnm
          refine loop2 h h7 p1 p2 p3 ?_
          have hV := ins_vals h h7 (show (1 : Int) ≤ (v : Int) by omega) (show (v : Int) ≤ 500 by omega) p1 p2 p3
          have hsame : reachV (vs.take p ++ [(v : Int)] ++ vs.drop p) s = reachV (vs ++ [(v : Int)]) s := reachV_same hV.mem (val5_snoc h.mem (by omega) (by omega)) (ins_mem vs (v : Int) p) s1
          have hR := ReachOf_is hV s s0 s1
          rw [hsame] at hR
          have hlt : (vs.take p).length = p := by rw [List.length_take]; omega
          have hld : (vs.drop p).length = vs.length - p := List.length_drop
          have c1 : (vs.take p).length < 17592186044416 := by omega
          have c2 : (0 : Int) ≤ ((vs.take p).length : Int) := by omega
          have c3 : ((vs.take p).length : Int) ≤ (vs.length : Int) := by omega
          have c4 : (vs.take p ++ [(v : Int)]).length + (vs.drop p).length < 17592186044416 := by rw [List.length_append, List.length_singleton]; omega
          have ed : vs.drop (((vs.take p).length : Int)).toNat = vs.drop p := by rw [Int.toNat_natCast, hlt]
          refine Ev.step (f := fun k => (impl_ReachOf.f k (vs.take p ++ [(v : Int)] ++ vs.drop p) s).bind fun bt => if bt.2 = 0 then (if bt.1 > m then some false else if bt.1 = m then (if (v : Int) < b then some false else if (v : Int) = b then laws_FnReach.l1 k vs s b m ((v + 1 : Nat) : Int) else laws_FnReach.l1 k vs s b m ((v + 1 : Nat) : Int)) else if (v : Int) = b then some false else laws_FnReach.l1 k vs s b m ((v + 1 : Nat) : Int)) else some false) (fun k => ?_) (Ev.bind hR ?_)
          · simp only [laws_FnReach.l2]
            rw [if_neg (by omega), if_pos c1]
            simp only [Option.bind_some]
            rw [if_pos c2, if_pos c3, ed, if_pos c4, e2]
          · rcases hB with ⟨_, h9, _⟩ | ⟨bn, b1, b2, b3, b4, b5, b6⟩
            · exact absurd h9 hm0
            · have hle := b6 v hv (by omega) hcf
              refine Ev.congr (fun k => ?_) ih2
              simp only
              rw [if_pos trivial, if_neg (by omega)]
              by_cases he : (reachV (vs ++ [(v : Int)]) s : Int) = m
              · rw [if_pos he]
                have hnl : ¬ (v : Int) < b := fun h9 => by have := hle.2 (by omega); omega
                rw [if_neg hnl]
                split <;> rfl
              · rw [if_neg he]
                have hnb : ¬ (v : Int) = b := fun h9 => he (by rw [h9, b5])
                rw [if_neg hnb]
  exact key _ 1 rfl (Nat.le_refl _)
/-- What stands behind the loop over the amounts. -/
theorem behind {vs : List Int} (h : Vals vs) (h7 : vs.length ≤ 7) (hlow : ∀ v ∈ vs, v ≤ 150) {s : Int} (s0 : 0 ≤ s) (s1 : s ≤ 12) : Ev (fun k => laws_FnReach.l0 k vs s (reachV vs s : Int) (((reachV vs s : Nat) : Int) + 1 + 1)) true := by
  have hr := (reachV_spec h.mem s1).2.2
  have e1 : wrap64 (((reachV vs s : Nat) : Int) + 1) = ((reachV vs s : Nat) : Int) + 1 := wrap_mid (by omega) (by omega)
  have hB := bestN_spec vs s 500 1 0 (-1) (Nat.le_refl _) (.inl ⟨rfl, rfl, fun u h1 h2 => by omega⟩)
  have hb1 := BestValue_is h h7 s s0 s1
  have hb2 := sBestValue_is h h7 s s0 s1
  generalize (bestN vs s 500 1 0 (-1)).1 = b at hB hb1 hb2
  generalize (bestN vs s 500 1 0 (-1)).2 = m at hB hb1 hb2
  have hB' : BestInv vs s 501 b m := hB
  obtain ⟨hb0, hbc, hdm, hb1'⟩ : b ≠ 0 ∧ vs.contains b = false ∧ ((reachV vs s : Nat) : Int) ≤ m ∧ 1 ≤ b := by
    rcases hB' with ⟨_, _, h9⟩ | ⟨bn, b1, b2, b3, b4, b5, _⟩
    · have := h9 500 (by omega) (by omega)
      have hm : (500 : Int) ∈ vs := by simpa using this
      have := hlow _ hm
      omega
    · have := reachV_sub h.mem (val5_snoc h.mem (show (1 : Int) ≤ b by omega) (show b ≤ 500 by omega)) (fun x hx => List.mem_append_left _ hx) s1
      exact ⟨by omega, b4, by omega, by omega⟩
  refine Ev.step (f := fun k => (impl_BestValue.f k vs s).bind fun x => (spec_BestValue.f k vs s).bind fun y => if x.2.2 = y.2.2 then (if x.2.2 = 0 then (if x.1 = y.1 then (if x.2.1 = y.2.1 then (if y.2.1 < (reachV vs s : Int) then laws_FnReach.j3 k vs s y.1 y.2.1 true else if y.1 < 1 then laws_FnReach.j3 k vs s y.1 y.2.1 true else (spec_HasNumber.f k vs y.1).bind fun t => laws_FnReach.j3 k vs s y.1 y.2.1 t) else laws_FnReach.j3 k vs s y.1 y.2.1 true) else laws_FnReach.j3 k vs s y.1 y.2.1 true) else laws_FnReach.j3 k vs s y.1 y.2.1 true) else laws_FnReach.j3 k vs s y.1 y.2.1 true) (fun k => ?_) (Ev.bind hb1 (Ev.bind hb2 ?_))
  · simp only [laws_FnReach.l0]
    rw [e1, if_neg (by omega)]
  · refine Ev.congr (f := fun k => (spec_HasNumber.f k vs b).bind fun t => laws_FnReach.j3 k vs s b m t) (fun k => ?_) (Ev.bind (HasNumber_is vs b (by omega)) ?_)
    · simp only
      rw [if_pos trivial, if_pos trivial, if_pos trivial, if_pos trivial, if_neg (by omega), if_neg (by omega)]
    · rw [hbc]
      refine Ev.step (fun k => ?_) (loop1 h h7 s0 s1 hB' hb0)
      simp only [laws_FnReach.j3]
      rw [if_neg (by simp)]
/-- The loop over the amounts. -/
theorem loop0 {vs : List Int} (h : Vals vs) (h5 : vs.length ≤ 5) (hlow : ∀ v ∈ vs, v ≤ 150) {s : Int} (s0 : 0 ≤ s) (s1 : s ≤ 6) : Ev (fun k => laws_FnReach.l0 k vs s (reachV vs s : Int) 1) true := by
  obtain ⟨r1, r2, r3⟩ := reachV_spec h.mem (s := s) (by omega)
  have hr9 : reachV vs s ≤ 900 := by
    rcases Nat.eq_zero_or_pos (reachV vs s) with h0 | h0
    · omega
    · have := r1 (reachV vs s) h0 (Nat.le_refl _)
      unfold badA at this
      rcases few_spec (fun v h9 => (h.mem v h9).1) (reachV vs s) with ⟨f, _⟩ | ⟨_, f, _⟩
      · omega
      · have : ∀ {c a : Int}, PaidC vs c a → a ≤ c * 150 := fun hp => by
          induction hp with
          | zero => simp
          | step hp hm ih =>
            have := hlow _ hm
            rw [Int.add_mul]
            omega
        have := this f
        omega
  have key : ∀ (d a : Nat), reachV vs s + 2 - a = d → 1 ≤ a → a ≤ reachV vs s + 2 → Ev (fun k => laws_FnReach.l0 k vs s (reachV vs s : Int) (a : Int)) true := by
    intro d
    induction d with
    | zero =>
      intro a hd h1 h2
      have e : (a : Int) = ((reachV vs s : Nat) : Int) + 1 + 1 := by omega
      rw [e]
      exact behind h (by omega) hlow s0 (by omega)
    | succ d ih =>
      intro a hd h1 h2
      have e1 : wrap64 (((reachV vs s : Nat) : Int) + 1) = ((reachV vs s : Nat) : Int) + 1 := wrap_mid (by omega) (by omega)
      have e2 : wrap64 ((a : Int) + 1) = ((a + 1 : Nat) : Int) := by rw [wrap_mid (by omega) (by omega)]; omega
      obtain ⟨x1, x2, x3, hf, hx⟩ := FewestStamps_is h h5 a (by omega)
      refine Ev.step (fun k => ?_) (ih (a + 1) (by omega) (by omega) (by omega))
      simp only [laws_FnReach.l0]
      rw [e1, if_pos (by omega), hf]
      simp only [Option.bind_some, e2]
      by_cases ha : a ≤ reachV vs s
      · have hnb := r1 a (by omega) ha
        unfold badA at hnb
        rcases hx with ⟨f, _⟩ | ⟨f, g1, g2⟩
        · omega
        · have d1 : decide (x2 ≤ s) = true := decide_eq_true (by omega)
          have d2 : decide ((a : Int) ≤ ((reachV vs s : Nat) : Int)) = true := decide_eq_true (by omega)
          rw [if_pos g1, d1, d2, if_neg (by simp)]
      · have hae : a = reachV vs s + 1 := by omega
        have hbad := r2
        rw [← hae] at hbad
        unfold badA at hbad
        have d2 : decide ((a : Int) ≤ ((reachV vs s : Nat) : Int)) = false := decide_eq_false (by omega)
        rcases hx with ⟨f, g1⟩ | ⟨f, g1, g2⟩
        · rw [if_neg (by omega), d2, if_neg (by simp)]
        · have d1 : decide (x2 ≤ s) = false := decide_eq_false (by omega)
          rw [if_pos g1, d1, d2, if_neg (by simp)]
  exact key _ 1 rfl (Nat.le_refl _) (by omega)
theorem Pure.FnReach (y0 : List Int) (y1 : List Int) (w0 : (y0.length ≤ maxLen ∧ ∀ x ∈ y0, (Lit.int .u8 x).wf = true)) (w1 : (y1.length ≤ maxLen ∧ ∀ x ∈ y1, (Lit.int .u8 x).wf = true)) : ∃ k, laws_FnReach.f k y0 y1 = some true := by
  have byts : ∀ l : List Int, (∀ x ∈ l, (Lit.int .u8 x).wf = true) → Byts l := fun l hl x hx => by
    have := bounds_u8 (hl x hx)
    omega
  have hb0 := byts y0 w0.2
  have hb1 := byts y1 w1.2
  by_cases h1 : (y0.length : Int) > 4096 ∨ (y1.length : Int) > 4096
  · refine ⟨1, ?_⟩
    unfold laws_FnReach.f
    simp only [laws_f6big.f, Option.bind_some, laws_FnReach.j0]
    by_cases h2 : (y0.length : Int) > 4096
    · rw [if_pos (decide_eq_true h2)]
      rfl
    · rw [if_neg (by rw [decide_eq_false h2]; simp), if_pos (decide_eq_true (h1.resolve_left h2))]
  · obtain ⟨vs, hE, hD⟩ := P6Values_is hb0
    have h := hD.vals
    have h4 := hD.len4
    obtain ⟨p, hp, p0, p1⟩ := P6Pick_is hb1 4 (by omega)
    obtain ⟨s, hs⟩ : ∃ s, 1 + p = s := ⟨_, rfl⟩
    have en : wrap64 (1 + p) = s := by rw [wrap_mid (by omega) (by omega)]; exact hs
    have en2 : wrap64 (s - 1) = s - 1 := wrap_mid (by omega) (by omega)
    apply Ev.rounds (g := fun k => laws_FnReach.f k y0 y1)
    refine Ev.congr (f := fun k => laws_FnReach.j0 k y0 y1 false) (fun k => ?_) ?_
    · unfold laws_FnReach.f
      simp only [laws_f6big.f, Option.bind_some]
      rw [if_neg (by rw [decide_eq_false (fun h => h1 (.inl h))]; simp), decide_eq_false (fun h => h1 (.inr h))]
    · have last : Ev (fun k => laws_FnReach.j1 k vs s (reachV vs s : Int) false) true := Ev.step (fun k => by
        simp only [laws_FnReach.j1]
        rw [if_neg (by simp)]) (loop0 h (by omega) hD.low (show 0 ≤ s by omega) (by omega))
      have hl1 := h.len1
      have hmono := reachV_mono h.mem (show s - 1 ≤ s by omega) (show s ≤ 12 by omega)
      have hz := reachV_zero h.mem
      have hpos := reachV_pos h.mem (show s ≤ 12 by omega) (show 1 ≤ s by omega)
      rw [first_one h] at hpos
      have e8 : rd vs 0 = vs.getD 0 0 := rfl
      have hcond : ((decide (((reachV vs s : Nat) : Int) > 0)) != (vs.getD 0 0 == 1)) = false := by
        by_cases hv : vs.getD 0 0 = 1
        · rw [hv, decide_eq_true (by have := hpos.2 hv; omega)]
          rfl
        · have e9 : (vs.getD 0 0 == 1) = false := by rw [beq_eq_false_iff_ne]; exact hv
          rw [e9, decide_eq_false (fun h9 => hv (hpos.1 (by omega)))]
          rfl
      refine Ev.step (f := fun k => (spec_P6Values.f k y0).bind fun t => (impl_ReachOf.f k t s).bind fun a => (spec_ReachOf.f k t s).bind fun b => (impl_ReachOf.f k t (s - 1)).bind fun c => (impl_ReachOf.f k t 0).bind fun d => (if a.2 = b.2 then (if a.2 = 0 then (if a.1 = b.1 then (if c.2 = 0 then (if c.1 > b.1 then laws_FnReach.j1 k t s b.1 true else (if d.2 = 0 then (if d.1 = 0 then (if 0 < (t.length : Int) then laws_FnReach.j1 k t s b.1 ((decide (b.1 > 0)) != ((rd t 0) == 1)) else none) else laws_FnReach.j1 k t s b.1 true) else laws_FnReach.j1 k t s b.1 true)) else laws_FnReach.j1 k t s b.1 true) else laws_FnReach.j1 k t s b.1 true) else laws_FnReach.j1 k t s b.1 true) else laws_FnReach.j1 k t s b.1 true)) (fun k => ?_) ?_
      · simp only [laws_FnReach.j0]
        rw [if_neg (by simp), hp]
        simp only [Option.bind_some, en, en2]
      · refine Ev.bind hE (Ev.bind (ReachOf_is h s (by omega) (by omega)) (Ev.bind (sReachOf_is h s (by omega) (by omega)) (Ev.bind (ReachOf_is h (s - 1) (by omega) (by omega)) (Ev.bind (ReachOf_is h 0 (by omega) (by omega)) (Ev.congr (fun k => ?_) last)))))
        simp only
        rw [if_pos trivial, if_pos trivial, if_pos trivial, if_pos trivial, if_neg (by omega), if_pos trivial, hz, if_pos (show ((0 : Nat) : Int) = 0 from rfl), if_pos (by omega), e8, hcond]
end Go.Proofs.Ytlcnjpibfjhibaa.Q
