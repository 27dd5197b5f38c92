/- What spec's reader of draws tells (bytes, picks), and the order that it mixes: each place once. -/
import Derived.Test.YtgjpnamckkedfaaLoops
import Derived.Test.YtgjpnamckkedfaaQ1
import Derived.Laws.Bits64b
set_option linter.unusedVariables false
set_option linter.unusedSimpArgs false
namespace Go.Proofs.Ytgjpnamckkedfaa.Q
open Go.RowKit Go.Proofs.YtgjpnamckkedfaaW.PrintWords Go.Proofs.Ytgjpnamckkedfaa.Loops
/-- Bytes. -/
def Byts (c : List Int) : Prop := ∀ x ∈ c, 0 ≤ x ∧ x ≤ 255
theorem rd_mem (c : List Int) (i : Int) (h0 : 0 ≤ i) (h1 : i < (c.length : Int)) : rd c i ∈ c := by
  unfold rd
  rw [List.getD_eq_getElem?_getD, List.getElem?_eq_getElem (by omega)]
  exact List.getElem_mem _
theorem and_byte (X : Int) (h0 : 0 ≤ X) (h1 : X < 18446744073709551616) : 0 ≤ wrap64 (Go.bits .and .u64 (X / 1099511627776) 255) ∧ wrap64 (Go.bits .and .u64 (X / 1099511627776) 255) ≤ 255 := by
  obtain ⟨n, hn⟩ : ∃ n : Nat, X / 1099511627776 = (n : Int) := ⟨(X / 1099511627776).toNat, by omega⟩
  have e := bits_and_u64_nat n 255 (by omega) (by omega)
  rw [hn, show (255 : Int) = ((255 : Nat) : Int) by rfl, e]
  have : n &&& 255 ≤ 255 := Nat.and_le_right
  rw [wrap_mid (by omega) (by omega)]
  omega
theorem u64_range (x : Int) : 0 ≤ IntKind.u64.wrap x ∧ IntKind.u64.wrap x < 18446744073709551616 := by
  rw [IntKind.wrap_u64]
  omega
theorem next_is {c : List Int} (hc : Byts c) (a s : Int) (h0 : 0 ≤ a) (h1 : a ≤ 1048576 * 1048576) : ∃ v s', spec_l00Src_next.f c a s = some (v, a + 1, s') ∧ 0 ≤ v ∧ v ≤ 255 := by
  unfold spec_l00Src_next.f
  have e1 : wrap64 (a + 1) = a + 1 := wrap_mid (by omega) (by omega)
  by_cases h2 : a < (c.length : Int)
  · have hb := hc _ (rd_mem c a h0 h2)
    rw [if_pos h2, if_pos h0, e1, if_pos (by omega), wrap_mid (i := rd c a) (by omega) (by omega)]
    exact ⟨_, _, rfl, hb.1, hb.2⟩
  · rw [if_neg h2, e1, if_neg (by omega)]
    obtain ⟨g0, g1⟩ := u64_range ((IntKind.u64.wrap ((IntKind.u64.wrap (s * 6364136223846793005)) + 0)) + 1442695040888963407)
    obtain ⟨b0, b1⟩ := and_byte _ g0 g1
    exact ⟨_, _, rfl, b0, b1⟩
theorem tmod_pick (v n : Int) (h0 : 0 ≤ v) (h1 : 1 ≤ n) : 0 ≤ Int.tmod v n ∧ Int.tmod v n < n := by
  rw [Int.tmod_eq_emod_of_nonneg h0]
  exact ⟨Int.emod_nonneg _ (by omega), Int.emod_lt_of_pos _ (by omega)⟩
theorem pick_is {c : List Int} (hc : Byts c) (a s n : Int) (h0 : 0 ≤ a) (h1 : a ≤ 1048576 * 1048575) : ∃ v a' s', spec_l00Src_pick.f c a s n = some (v, a', s') ∧ 0 ≤ v ∧ (v = 0 ∨ v < n) ∧ a ≤ a' ∧ a' ≤ a + 2 := by
  unfold spec_l00Src_pick.f
  by_cases h2 : n ≤ 1
  · rw [if_pos h2]
    exact ⟨0, a, s, rfl, Int.le_refl _, .inl rfl, Int.le_refl _, by omega⟩
  · rw [if_neg h2]
    obtain ⟨v, s', e, v0, v1⟩ := next_is hc a s h0 (by omega)
    rw [e, Option.bind_some]
    by_cases h3 : n > 200
    · rw [if_pos h3]
      obtain ⟨u, s2, e2, u0, u1⟩ := next_is hc (a + 1) s' (by omega) (by omega)
      simp only [e2, Option.bind_some]
      rw [if_neg (by omega), wrap_mid (i := v * 256) (by omega) (by omega), wrap_mid (i := v * 256 + u) (by omega) (by omega)]
      obtain ⟨t0, t1⟩ := tmod_pick (v * 256 + u) n (by omega) (by omega)
      exact ⟨_, _, _, rfl, t0, .inr t1, by omega, by omega⟩
    · rw [if_neg h3, if_neg (by omega)]
      obtain ⟨t0, t1⟩ := tmod_pick v n v0 (by omega)
      exact ⟨_, a + 1, _, rfl, t0, .inr t1, by omega, by omega⟩
/-- An order of the places below m, each once. -/
structure Mixed (m : Nat) (l : List Int) : Prop where
  len : l.length = m
  nod : l.Nodup
  mem : ∀ x ∈ l, 0 ≤ x ∧ x < (m : Int)
theorem Mixed.snoc {m : Nat} {l : List Int} (h : Mixed m l) (a : Nat) (ha : a ≤ m) : Mixed (m + 1) ((l.take a ++ [(m : Int)]) ++ l.drop a) := by
  have hn : (m : Int) ∉ l := fun hm => by have := (h.mem _ hm).2; omega
  have e : ((l.take a ++ [(m : Int)]) ++ l.drop a).Perm ((m : Int) :: l) := by
    rw [List.append_assoc, List.singleton_append]
    refine (List.perm_middle (a := (m : Int))).trans ?_
    rw [List.take_append_drop]
  refine ⟨?_, ?_, ?_⟩
  · rw [e.length_eq, List.length_cons, h.len]
  · exact e.nodup_iff.2 (List.nodup_cons.2 ⟨hn, h.nod⟩)
  · intro x hx
    rcases List.mem_cons.1 (e.mem_iff.1 hx) with rfl | hx
    · omega
    · have := h.mem x hx; omega
theorem mixed_loop {c : List Int} (hc : Byts c) (n : Nat) (hn : n ≤ 8) : ∀ (j m : Nat) (l : List Int) (a s : Int), m + j = n → Mixed m l → 0 ≤ a → a ≤ 100 * m →
    ∃ r a' s', spec_l04Mixed.l0 (j + 1) (n : Int) l (m : Int) c a s = some (r, a', s') ∧ Mixed n r := by
  intro j
  induction j with
  | zero =>
    intro m l a s hm hM h0 h1
    refine ⟨l, a, s, ?_, ?_⟩
    · rw [spec_l04Mixed.l0, if_neg (by omega)]
    · rw [show n = m by omega]; exact hM
  | succ j ih =>
    intro m l a s hm hM h0 h1
    obtain ⟨v, a', s', e, v0, v1, g0, g1⟩ := pick_is hc a s ((m : Int) + 1) h0 (by omega)
    have hv : v ≤ (m : Int) := by omega
    have hl := hM.len
    have hw : wrap64 ((m : Int) + 1) = ((m + 1 : Nat) : Int) := by rw [wrap_mid (by omega) (by omega)]; omega
    obtain ⟨r, b, u, e2, hr⟩ := ih (m + 1) ((l.take v.toNat ++ [(m : Int)]) ++ l.drop v.toNat) a' s' (by omega) (hM.snoc v.toNat (by omega)) (by omega) (by omega)
    refine ⟨r, b, u, ?_, hr⟩
    have hd : (l.drop v.toNat).length = m - v.toNat := by rw [List.length_drop, hl]
    have ht : (l.take v.toNat).length = v.toNat := by rw [List.length_take, hl]; omega
    rw [spec_l04Mixed.l0, if_pos (by omega), show wrap64 ((m : Int) + 1) = (m : Int) + 1 from wrap_mid (by omega) (by omega), e]
    simp only [Option.bind_some]
    rw [if_pos v0, if_pos (by omega)]
    simp only [spec_l00Own.f, Option.bind_some, List.nil_append]
    rw [if_pos (by rw [hd]; simp only [List.length_nil]; omega)]
    simp only [Option.bind_some]
    rw [if_pos (by rw [ht]; omega), if_pos (by rw [List.length_append, ht, hd, List.length_singleton]; omega)]
    rw [show (m : Int) + 1 = ((m + 1 : Nat) : Int) by omega]
    exact e2
/-- The order that is mixed: each place below n once. -/
theorem order_is {c : List Int} (hc : Byts c) (n : Nat) (hn : n ≤ 8) : ∃ r, spec_A2Order.f (n + 1) c (n : Int) = some r ∧ Mixed n r := by
  obtain ⟨r, a, s, e, h⟩ := mixed_loop hc n hn n 0 [] 0 0 (by omega) ⟨rfl, List.nodup_nil, fun _ h => absurd h List.not_mem_nil⟩ (by omega) (by omega)
  refine ⟨r, ?_, h⟩
  unfold spec_A2Order.f spec_l00From.f spec_l04Mixed.f
  simp only [Option.bind_some]
  have e' : spec_l04Mixed.l0 (n + 1) (↑n) [] 0 c 0 0 = some (r, a, s) := e
  rw [e']
  rfl
/-- The number of places: 0 to 8. -/
theorem a2At_is {c : List Int} (hc : Byts c) : ∃ n : Nat, n ≤ 8 ∧ laws_a2At.f c 0 9 = some (n : Int) := by
  unfold laws_a2At.f
  by_cases h : (0 : Int) ≥ (c.length : Int)
  · exact ⟨0, by omega, by rw [if_pos h]; rfl⟩
  · have hb := hc _ (rd_mem c 0 (by omega) (by omega))
    rw [if_neg h, if_neg (by omega), if_pos (by omega), if_pos (by omega), if_neg (by omega), wrap_mid (by omega) (by omega)]
    obtain ⟨t0, t1⟩ := tmod_pick (rd c 0) 9 hb.1 (by omega)
    exact ⟨(Int.tmod (rd c 0) 9).toNat, by omega, by rw [Int.toNat_of_nonneg t0]⟩
theorem a2Long_is (c d : List Int) : ∃ b, laws_a2Long.f c d = some b ∧ (b = false → c.length ≤ 3000 ∧ d.length ≤ 3000) := by
  unfold laws_a2Long.f
  by_cases h : (c.length : Int) > 3000
  · exact ⟨true, by rw [if_pos h], by simp⟩
  · exact ⟨_, by rw [if_neg h], fun e => by have := of_decide_eq_false e; omega⟩
end Go.Proofs.Ytgjpnamckkedfaa.Q
