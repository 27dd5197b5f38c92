/- What spec's reader of draws tells: bytes, picks, values that rise. -/
import Derived.Test.YtlcnjpibfjhibaaLoops
import Derived.Test.YtlcnjpibfjhibaaQH
import Derived.Laws.Bits64b
set_option linter.unusedVariables false
set_option linter.unusedSimpArgs false
namespace Go.Proofs.Ytlcnjpibfjhibaa.Q
open Go.RowKit Go.Proofs.YtlcnjpibfjhibaaW.PrintWords Go.Proofs.Ytlcnjpibfjhibaa.Loops
/-- Bytes. -/
def Byts (c : List Int) : Prop := ∀ x ∈ c, 0 ≤ x ∧ x ≤ 255
theorem rd_mem (c : List Int) (i : Int) (h0 : 0 ≤ i) (h1 : i < (c.length : Int)) : rd c i ∈ c := by
  unfold rd
  rw [List.getD_eq_getElem?_getD, List.getElem?_eq_getElem (by omega)]
  exact List.getElem_mem _
theorem and_byte (X : Int) (h0 : 0 ≤ X) (h1 : X < 18446744073709551616) : 0 ≤ wrap64 (Go.bits .and .u64 (X / 1099511627776) 255) ∧ wrap64 (Go.bits .and .u64 (X / 1099511627776) 255) ≤ 255 := by
  obtain ⟨n, hn⟩ : ∃ n : Nat, X / 1099511627776 = (n : Int) := ⟨(X / 1099511627776).toNat, by omega⟩
  have e := bits_and_u64_nat n 255 (by omega) (by omega)
  rw [hn, show (255 : Int) = ((255 : Nat) : Int) by rfl, e]
  have : n &&& 255 ≤ 255 := Nat.and_le_right
  rw [wrap_mid (by omega) (by omega)]
  omega
theorem u64_range (x : Int) : 0 ≤ IntKind.u64.wrap x ∧ IntKind.u64.wrap x < 18446744073709551616 := by
  rw [IntKind.wrap_u64]
  omega
theorem next_is {c : List Int} (hc : Byts c) (a s : Int) (h0 : 0 ≤ a) (h1 : a ≤ 1048576 * 1048576) : ∃ v s', spec_l00Src_next.f c a s = some (v, a + 1, s') ∧ 0 ≤ v ∧ v ≤ 255 := by
  unfold spec_l00Src_next.f
  have e1 : wrap64 (a + 1) = a + 1 := wrap_mid (by omega) (by omega)
  by_cases h2 : a < (c.length : Int)
  · have hb := hc _ (rd_mem c a h0 h2)
    rw [if_pos h2, if_pos h0, e1, if_pos (by omega), wrap_mid (i := rd c a) (by omega) (by omega)]
    exact ⟨_, _, rfl, hb.1, hb.2⟩
  · rw [if_neg h2, e1, if_neg (by omega)]
    obtain ⟨g0, g1⟩ := u64_range ((IntKind.u64.wrap ((IntKind.u64.wrap (s * 6364136223846793005)) + 0)) + 1442695040888963407)
    obtain ⟨b0, b1⟩ := and_byte _ g0 g1
    exact ⟨_, _, rfl, b0, b1⟩
theorem tmod_pick (v n : Int) (h0 : 0 ≤ v) (h1 : 1 ≤ n) : 0 ≤ Int.tmod v n ∧ Int.tmod v n < n := by
  rw [Int.tmod_eq_emod_of_nonneg h0]
  exact ⟨Int.emod_nonneg _ (by omega), Int.emod_lt_of_pos _ (by omega)⟩
theorem pick_is {c : List Int} (hc : Byts c) (a s n : Int) (h0 : 0 ≤ a) (h1 : a ≤ 1048576 * 1048575) : ∃ v a' s', spec_l00Src_pick.f c a s n = some (v, a', s') ∧ 0 ≤ v ∧ (v = 0 ∨ v < n) ∧ a ≤ a' ∧ a' ≤ a + 2 := by
  unfold spec_l00Src_pick.f
  by_cases h2 : n ≤ 1
  · rw [if_pos h2]
    exact ⟨0, a, s, rfl, Int.le_refl _, .inl rfl, Int.le_refl _, by omega⟩
  · rw [if_neg h2]
    obtain ⟨v, s', e, v0, v1⟩ := next_is hc a s h0 (by omega)
    rw [e, Option.bind_some]
    by_cases h3 : n > 200
    · rw [if_pos h3]
      obtain ⟨u, s2, e2, u0, u1⟩ := next_is hc (a + 1) s' (by omega) (by omega)
      simp only [e2, Option.bind_some]
      rw [if_neg (by omega), wrap_mid (i := v * 256) (by omega) (by omega), wrap_mid (i := v * 256 + u) (by omega) (by omega)]
      obtain ⟨t0, t1⟩ := tmod_pick (v * 256 + u) n (by omega) (by omega)
      exact ⟨_, _, _, rfl, t0, .inr t1, by omega, by omega⟩
    · rw [if_neg h3, if_neg (by omega)]
      obtain ⟨t0, t1⟩ := tmod_pick v n v0 (by omega)
      exact ⟨_, a + 1, _, rfl, t0, .inr t1, by omega, by omega⟩
theorem among_is {c : List Int} (hc : Byts c) (a s : Int) (l : List Int) (h0 : 0 ≤ a) (h1 : a ≤ 1048576 * 1048575) (hl : 1 ≤ l.length) (hl2 : l.length ≤ 1048576) : ∃ v a' s', spec_l00Src_among.f c a s l = some (v, a', s') ∧ v ∈ l ∧ a ≤ a' ∧ a' ≤ a + 2 := by
  unfold spec_l00Src_among.f
  obtain ⟨v, a', s', e, v0, v1, g0, g1⟩ := pick_is hc a s (l.length : Int) h0 h1
  have v2 : v < (l.length : Int) := by omega
  simp only [e, Option.bind_some]
  rw [if_pos v0, if_pos v2]
  exact ⟨_, _, _, rfl, rd_mem l v v0 v2, g0, g1⟩
/-- Values that rise by steps of at most m, from 0 on; the last one. -/
inductive Steps (m : Int) : List Int → Int → Prop
  | nil : Steps m [] 0
  | snoc {xs : List Int} {t u : Int} : Steps m xs t → t < u → u ≤ t + m → Steps m (xs ++ [u]) u
/-- Values that are valid. -/
structure Vals (vs : List Int) : Prop where
  len1 : 1 ≤ vs.length
  len8 : vs.length ≤ 8
  mem : ∀ v ∈ vs, 1 ≤ v ∧ v ≤ 500
  rise : ∀ i, i + 1 < vs.length → vs.getD i 0 < vs.getD (i + 1) 0
theorem Steps.len {m : Int} {xs : List Int} {t : Int} (h : Steps m xs t) : t ≤ m * xs.length := by
  induction h with
  | nil => simp
  | snoc _ h1 h2 ih =>
    rw [List.length_append, List.length_singleton, Int.natCast_add, Int.mul_add]
    simp only [Int.natCast_one, Int.mul_one]
    omega
theorem Steps.last_nonneg {m : Int} {xs : List Int} {t : Int} (h : Steps m xs t) : 0 ≤ t := by
  induction h with
  | nil => exact Int.le_refl _
  | snoc _ h1 _ ih => omega
theorem Steps.mem {m : Int} {xs : List Int} {t : Int} (h : Steps m xs t) : ∀ v ∈ xs, 1 ≤ v ∧ v ≤ t := by
  induction h with
  | nil => intro v hv; cases hv
  | snoc h1 h2 h3 ih =>
    intro v hv
    have := h1.last_nonneg
    rcases List.mem_append.1 hv with hv | hv
    · have := ih v hv
      omega
    · rw [List.mem_singleton] at hv
      omega
theorem Steps.last {m : Int} {xs : List Int} {t : Int} (h : Steps m xs t) (hn : 1 ≤ xs.length) : xs.getD (xs.length - 1) 0 = t := by
  cases h with
  | nil => simp at hn
  | snoc _ _ _ => simp [List.getD_eq_getElem?_getD]
theorem Steps.rise {m : Int} {xs : List Int} {t : Int} (h : Steps m xs t) : ∀ i, i + 1 < xs.length → xs.getD i 0 < xs.getD (i + 1) 0 := by
  induction h with
  | nil => intro i hi; simp at hi
  | snoc h1 h2 h3 ih =>
    rename_i xs t u
    intro i hi
    rw [List.length_append, List.length_singleton] at hi
    rcases Nat.lt_or_ge (i + 1) xs.length with hlt | hge
    · have := ih i hlt
      simp only [List.getD_eq_getElem?_getD] at this ⊢
      rw [List.getElem?_append_left (by omega), List.getElem?_append_left (by omega)]
      exact this
    · have e : i = xs.length - 1 := by omega
      have hl := h1.last (by omega)
      simp only [List.getD_eq_getElem?_getD] at hl ⊢
      rw [List.getElem?_append_left (by omega), List.getElem?_append_right (by omega), show i + 1 - xs.length = 0 by omega, e, hl]
      exact h2
/-- Values that were drawn. -/
structure Drawn (vs : List Int) : Prop where
  vals : Vals vs
  len4 : vs.length ≤ 4
  low : ∀ v ∈ vs, v ≤ 150
theorem kinds_loop {c : List Int} (hc : Byts c) (by_ : Int) (hb : by_ = 1 ∨ by_ = 2 ∨ by_ = 5) : ∀ (d : Nat) (xs : List Int) (t a s : Int), Steps 30 xs t → xs.length + d ≤ 4 → 0 ≤ a → a + 2 * d ≤ 1048576 →
    ∃ out a' s', Ev (fun k => spec_l01Kinds.l0 k xs t by_ d c a s) (out, a', s') ∧ (∃ u, Steps 30 out u) ∧ out.length = xs.length + d := by
  intro d
  induction d with
  | zero =>
    intro xs t a s hs hl h0 h1
    refine ⟨xs, a, s, Ev.step (f := fun _ => some (xs, a, s)) (fun k => ?_) (Ev.now _), ⟨t, hs⟩, rfl⟩
    simp only [spec_l01Kinds.l0]
    rw [if_neg (by omega)]
  | succ d ih =>
    intro xs t a s hs hl h0 h1
    obtain ⟨v, a', s', e, v0, v1, g0, g1⟩ := pick_is hc a s 6 h0 (by omega)
    have ht := hs.len
    have ht0 := hs.last_nonneg
    have hlz : (xs.length : Int) ≤ 4 := by omega
    have hv6 : v < 6 := by omega
    have e1 : wrap64 (1 + v) = 1 + v := wrap_mid (by omega) (by omega)
    have hp : 1 ≤ by_ * (1 + v) ∧ by_ * (1 + v) ≤ 30 := by rcases hb with rfl | rfl | rfl <;> omega
    have e2 : wrap64 (by_ * (1 + v)) = by_ * (1 + v) := wrap_mid (by omega) (by omega)
    have e3 : wrap64 (t + by_ * (1 + v)) = t + by_ * (1 + v) := wrap_mid (by omega) (by omega)
    have e4 : wrap64 (((d + 1 : Nat) : Int) - 1) = (d : Int) := by rw [wrap_mid (by omega) (by omega)]; omega
    obtain ⟨out, a2, s2, hE, hS, hL⟩ := ih (xs ++ [t + by_ * (1 + v)]) (t + by_ * (1 + v)) a' s' (.snoc hs (by omega) (by omega)) (by rw [List.length_append, List.length_singleton]; omega) (by omega) (by omega)
    refine ⟨out, a2, s2, Ev.step (fun k => ?_) hE, hS, by rw [hL, List.length_append, List.length_singleton]; omega⟩
    simp only [spec_l01Kinds.l0]
    rw [if_pos (by omega), e, Option.bind_some, if_pos (by omega), e1, e2, e3, e4]
theorem kinds_is {c : List Int} (hc : Byts c) (a s : Int) (h0 : 0 ≤ a) (h1 : a ≤ 1000000) : ∃ out a' s', Ev (fun k => spec_l01Kinds.f k c a s) (out, a', s') ∧ Drawn out := by
  obtain ⟨b, a1, s1, e1, hb, g0, g1⟩ := among_is hc a s [1, 1, 1, 2, 5] h0 (by omega) (by simp) (by simp)
  obtain ⟨v, a2, s2, e2, v0, v1, f0, f1⟩ := pick_is hc a1 s1 4 (by omega) (by omega)
  have hb' : b = 1 ∨ b = 2 ∨ b = 5 := by
    simp only [List.mem_cons, List.not_mem_nil, or_false] at hb
    omega
  have hv4 : v < 4 := by omega
  obtain ⟨d, hd⟩ : ∃ d : Nat, 1 + v = d := ⟨(1 + v).toNat, by omega⟩
  obtain ⟨out, a3, s3, hE, ⟨u, hS⟩, hL⟩ := kinds_loop hc b hb' d [] 0 a2 s2 .nil (by simp; omega) (by omega) (by omega)
  have hlen : out.length = d := by simpa using hL
  have hu := hS.len
  refine ⟨out, a3, s3, Ev.congr (fun k => ?_) hE, ⟨⟨by omega, by omega, fun x hx => ?_, hS.rise⟩, by omega, fun x hx => ?_⟩⟩
  · unfold spec_l01Kinds.f
    simp only [e1, e2, Option.bind_some]
    rw [wrap_mid (i := 1 + v) (by omega) (by omega), hd]
  · have := hS.mem x hx
    omega
  · have := hS.mem x hx
    omega
theorem P6Values_is {c : List Int} (hc : Byts c) : ∃ vs, Ev (fun k => spec_P6Values.f k c) vs ∧ Drawn vs := by
  obtain ⟨out, a', s', hE, hD⟩ := kinds_is hc 0 0 (Int.le_refl _) (by omega)
  refine ⟨out, ?_, hD⟩
  unfold spec_P6Values.f
  simp only [spec_l00From.f, Option.bind_some]
  exact Ev.bind hE (Ev.now _)
theorem P6Pick_is {c : List Int} (hc : Byts c) (n : Int) (hn : 1 ≤ n) : ∃ v, spec_P6Pick.f c n = some v ∧ 0 ≤ v ∧ v < n := by
  obtain ⟨v, a', s', e, v0, v1, _⟩ := pick_is hc 0 0 n (Int.le_refl _) (by omega)
  refine ⟨v, ?_, v0, by omega⟩
  unfold spec_P6Pick.f
  simp only [spec_l00From.f, Option.bind_some, e]
/-- Lists that rise: the program's own test. -/
theorem isRising_is {vs : List Int} (hl : vs.length ≤ 1048576) (hr : ∀ i, i + 1 < vs.length → vs.getD i 0 < vs.getD (i + 1) 0) : Ev (fun k => impl_isRising.f k vs) true := by
  have key : ∀ (d i : Nat), vs.length - i = d → 1 ≤ i → Ev (fun k => impl_isRising.l0 k vs (i : Int)) true := by
    intro d
    induction d with
    | zero =>
      intro i hd hi
      refine Ev.step (f := fun _ => some true) (fun k => ?_) (Ev.now _)
      simp only [impl_isRising.l0]
      rw [if_neg (by omega)]
    | succ d ih =>
      intro i hd hi
      have h := hr (i - 1) (by omega)
      refine Ev.step (fun k => ?_) (ih (i + 1) (by omega) (by omega))
      simp only [impl_isRising.l0]
      have e1 : wrap64 ((i : Int) - 1) = ((i - 1 : Nat) : Int) := by rw [wrap_mid (by omega) (by omega)]; omega
      have e2 : wrap64 ((i : Int) + 1) = ((i + 1 : Nat) : Int) := by rw [wrap_mid (by omega) (by omega)]; omega
      rw [if_pos (by omega), if_pos (by omega), e1, e2, if_pos (by omega), if_pos (by omega)]
      rw [show i - 1 + 1 = i by omega] at h
      rw [if_neg (show ¬ rd vs (i : Int) ≤ rd vs ((i - 1 : Nat) : Int) by simp only [rd, Int.toNat_natCast]; omega)]
  exact Ev.congr (fun k => by unfold impl_isRising.f; rfl) (key _ 1 rfl (Nat.le_refl _))
theorem allIn_vals {vs : List Int} (h : Vals vs) : allIn vs 1 500 = true := by
  unfold allIn
  rw [List.all_eq_true]
  intro v hv
  exact inB_true.2 (h.mem v hv)
theorem ValidValues_is {vs : List Int} (h : Vals vs) : Ev (fun k => impl_ValidValues.f k vs) true := by
  have h1 := h.len1
  have h8 := h.len8
  have e : ∀ k, impl_ValidValues.f k vs = (impl_isRising.f k vs).bind fun t => some t := fun k => by
    unfold impl_ValidValues.f
    simp only [impl_size_int64.f, Option.bind_some, impl_within.f]
    rw [if_pos (by omega)]
    simp only [Option.bind_some]
    rw [if_pos (by simp only [decide_eq_true_eq]; omega)]
    have : impl_areWithin.f vs 1 500 = some true := by
      rw [← allIn_vals h]
      rfl
    rw [this]
    simp only [Option.bind_some, if_true]
  exact Ev.congr e (Ev.bind (isRising_is (by omega) h.rise) (Ev.now _))
theorem valuesCode_is {vs : List Int} (h : Vals vs) (n most : Int) (h0 : 0 ≤ n) (h1 : n ≤ most) : Ev (fun k => impl_valuesCode.f k vs n most) 0 := by
  unfold impl_valuesCode.f
  refine Ev.bind (ValidValues_is h) (Ev.congr (fun k => ?_) (Ev.now 0))
  simp only [if_true, impl_within.f, Option.bind_some, if_pos h0, impl_unless.f]
  rw [decide_eq_true h1]
  rfl
theorem l01Values_is {vs : List Int} (h : Vals vs) : Ev (fun k => spec_l01Values.f k vs) true := by
  have h1 := h.len1
  have h8 := h.len8
  have key : ∀ (d i : Nat), vs.length - i = d → Ev (fun k => spec_l01Values.l0 k vs (i : Int)) true := by
    intro d
    induction d with
    | zero =>
      intro i hd
      refine Ev.step (f := fun _ => some true) (fun k => ?_) (Ev.now _)
      simp only [spec_l01Values.l0]
      rw [if_neg (by omega)]
      simp only [spec_l00In.f]
      rw [if_pos (by omega)]
      simp only [Option.bind_some]
      rw [decide_eq_true (by omega)]
    | succ d ih =>
      intro i hd
      have hm := h.mem _ (rd_mem vs (i : Int) (by omega) (by omega))
      refine Ev.step (fun k => ?_) (ih (i + 1) (by omega))
      simp only [spec_l01Values.l0]
      have e2 : wrap64 ((i : Int) + 1) = ((i + 1 : Nat) : Int) := by rw [wrap_mid (by omega) (by omega)]; omega
      rw [if_pos (by omega), if_pos (by omega)]
      simp only [spec_l00In.f]
      rw [if_pos (by omega)]
      simp only [Option.bind_some]
      rw [if_pos (by simp only [decide_eq_true_eq]; omega), e2]
      by_cases hi : (i : Int) > 0
      · have e1 : wrap64 ((i : Int) - 1) = ((i - 1 : Nat) : Int) := by rw [wrap_mid (by omega) (by omega)]; omega
        have hr := h.rise (i - 1) (by omega)
        rw [show i - 1 + 1 = i by omega] at hr
        rw [if_pos hi, e1, if_pos (by omega), if_pos (by omega)]
        rw [if_neg (show ¬ rd vs (i : Int) ≤ rd vs ((i - 1 : Nat) : Int) by simp only [rd, Int.toNat_natCast]; omega)]
      · rw [if_neg hi]
  exact Ev.congr (fun k => by unfold spec_l01Values.f; rfl) (key _ 0 rfl)
theorem l01Asked_is {vs : List Int} (h : Vals vs) : Ev (fun k => spec_l01Asked.f k vs true) 0 := by
  unfold spec_l01Asked.f
  refine Ev.bind (l01Values_is h) (Ev.congr (fun k => ?_) (Ev.now 0))
  simp only [if_true]
end Go.Proofs.Ytlcnjpibfjhibaa.Q
