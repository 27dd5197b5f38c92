/- What spec's reader of draws tells: bytes, picks; the nets and scans that are drawn are valid. -/
import Derived.Test.YticfecncdpdanaaLoops
import Derived.Test.YticfecncdpdanaaQ2
import Derived.Test.YticfecncdpdanaaQ3
import Derived.Test.YticfecncdpdanaaMA
import Derived.Laws.Bits64b
set_option linter.unusedVariables false
set_option linter.unusedSimpArgs false
namespace Go.Proofs.Yticfecncdpdanaa.Q
open Go.RowKit Go.Proofs.YticfecncdpdanaaW.PrintWords Go.Proofs.Yticfecncdpdanaa.Loops
/-- Bytes. -/
def Byts (c : List Int) : Prop := ∀ x ∈ c, 0 ≤ x ∧ x ≤ 255
theorem rd_mem (c : List Int) (i : Int) (h0 : 0 ≤ i) (h1 : i < (c.length : Int)) : rd c i ∈ c := by
  unfold rd
  rw [List.getD_eq_getElem?_getD, List.getElem?_eq_getElem (by omega)]
  exact List.getElem_mem _
theorem and_byte (X : Int) (h0 : 0 ≤ X) (h1 : X < 18446744073709551616) : 0 ≤ wrap64 (Go.bits .and .u64 (X / 1099511627776) 255) ∧ wrap64 (Go.bits .and .u64 (X / 1099511627776) 255) ≤ 255 := by
  obtain ⟨n, hn⟩ : ∃ n : Nat, X / 1099511627776 = (n : Int) := ⟨(X / 1099511627776).toNat, by omega⟩
  have e := bits_and_u64_nat n 255 (by omega) (by omega)
  rw [hn, show (255 : Int) = ((255 : Nat) : Int) by rfl, e]
  have : n &&& 255 ≤ 255 := Nat.and_le_right
  rw [wrap_mid (by omega) (by omega)]
  omega
theorem u64_range (x : Int) : 0 ≤ IntKind.u64.wrap x ∧ IntKind.u64.wrap x < 18446744073709551616 := by
  rw [IntKind.wrap_u64]
  omega
theorem nextD_is {c : List Int} (hc : Byts c) (a s : Int) (h0 : 0 ≤ a) (h1 : a ≤ 1048576 * 1048576) : ∃ v s', spec_l00Src_next.f c a s = some (v, a + 1, s') ∧ 0 ≤ v ∧ v ≤ 255 := by
  unfold spec_l00Src_next.f
  have e1 : wrap64 (a + 1) = a + 1 := wrap_mid (by omega) (by omega)
  by_cases h2 : a < (c.length : Int)
  · have hb := hc _ (rd_mem c a h0 h2)
    rw [if_pos h2, if_pos h0, e1, if_pos (by omega), wrap_mid (i := rd c a) (by omega) (by omega)]
    exact ⟨_, _, rfl, hb.1, hb.2⟩
  · rw [if_neg h2, e1, if_neg (by omega)]
    obtain ⟨g0, g1⟩ := u64_range ((IntKind.u64.wrap ((IntKind.u64.wrap (s * 6364136223846793005)) + 0)) + 1442695040888963407)
    obtain ⟨b0, b1⟩ := and_byte _ g0 g1
    exact ⟨_, _, rfl, b0, b1⟩
theorem tmod_pick (v n : Int) (h0 : 0 ≤ v) (h1 : 1 ≤ n) : 0 ≤ Int.tmod v n ∧ Int.tmod v n < n := by
  rw [Int.tmod_eq_emod_of_nonneg h0]
  exact ⟨Int.emod_nonneg _ (by omega), Int.emod_lt_of_pos _ (by omega)⟩
theorem pick_is {c : List Int} (hc : Byts c) (a s n : Int) (h0 : 0 ≤ a) (h1 : a ≤ 1048576 * 1048575) : ∃ v a' s', spec_l00Src_pick.f c a s n = some (v, a', s') ∧ 0 ≤ v ∧ (v = 0 ∨ v < n) ∧ a ≤ a' ∧ a' ≤ a + 2 := by
  unfold spec_l00Src_pick.f
  by_cases h2 : n ≤ 1
  · rw [if_pos h2]
    exact ⟨0, a, s, rfl, Int.le_refl _, .inl rfl, Int.le_refl _, by omega⟩
  · rw [if_neg h2]
    obtain ⟨v, s', e, v0, v1⟩ := nextD_is hc a s h0 (by omega)
    rw [e, Option.bind_some]
    by_cases h3 : n > 200
    · rw [if_pos h3]
      obtain ⟨u, s2, e2, u0, u1⟩ := nextD_is hc (a + 1) s' (by omega) (by omega)
      simp only [e2, Option.bind_some]
      rw [if_neg (by omega), wrap_mid (i := v * 256) (by omega) (by omega), wrap_mid (i := v * 256 + u) (by omega) (by omega)]
      obtain ⟨t0, t1⟩ := tmod_pick (v * 256 + u) n (by omega) (by omega)
      exact ⟨_, _, _, rfl, t0, .inr t1, by omega, by omega⟩
    · rw [if_neg h3, if_neg (by omega)]
      obtain ⟨t0, t1⟩ := tmod_pick v n v0 (by omega)
      exact ⟨_, a + 1, _, rfl, t0, .inr t1, by omega, by omega⟩
theorem w_s {x : Int} (h0 : 0 ≤ x) (h1 : x ≤ 1000000) : wrap64 x = x := wrap_mid (by omega) (by omega)
theorem w_i8 {x : Int} (h0 : 0 ≤ x) (h1 : x ≤ 100) : IntKind.i8.wrap x = x := by
  have e : IntKind.i8.wrap x = (x + 128) % 256 - 128 := by
    simp [IntKind.wrap, IntKind.bits, IntKind.signed]
    split <;> omega
  rw [e]; omega
theorem w_i16 {x : Int} (h0 : 0 ≤ x) (h1 : x ≤ 10000) : IntKind.i16.wrap x = x := by
  have e : IntKind.i16.wrap x = (x + 32768) % 65536 - 32768 := by
    simp [IntKind.wrap, IntKind.bits, IntKind.signed]
    split <;> omega
  rw [e]; omega
/-- A lane of a net that was drawn. -/
structure LaneD (s : Int) (x : S44) : Prop where
  f0 : 0 ≤ x.f0 ∧ x.f0 < s
  f1 : 0 ≤ x.f1 ∧ x.f1 < s
  ne : x.f0 ≠ x.f1
  f2 : 1 ≤ x.f2 ∧ x.f2 ≤ 6
  f3 : x.f2 ≤ x.f3 ∧ x.f3 ≤ 9
theorem lanes_is {c : List Int} (hc : Byts c) {s : Int} (s2 : 2 ≤ s) (s5 : s ≤ 5) (t : Int) : ∀ (d : Nat) (ls : List S44) (a z : Int), ls.length + d ≤ 7 → (∀ x ∈ ls, LaneD s x) → 0 ≤ a → a + 8 * d ≤ 1000 →
    ∃ ls' a' z', Ev (fun k => spec_l07Drawn.l0 k s (d : Int) c a z s t ls) (s, t, ls', a', z') ∧ ls'.length = ls.length + d ∧ ∀ x ∈ ls', LaneD s x := by
  intro d
  induction d with
  | zero =>
    intro ls a z _ hl _ _
    refine ⟨ls, a, z, ?_, by omega, hl⟩
    refine Ev.step (f := fun _ => some (s, t, ls, a, z)) (fun k => ?_) (Ev.now _)
    rw [spec_l07Drawn.l0, if_neg (by omega)]
  | succ d ih =>
    intro ls a z hlen hl a0 a1
    obtain ⟨v1, p1, q1, e1, x1, y1, b1, b1'⟩ := pick_is hc a z s a0 (by omega)
    obtain ⟨v2, p2, q2, e2, x2, y2, b2, b2'⟩ := pick_is hc p1 q1 (s - 1) (by omega) (by omega)
    obtain ⟨v3, p3, q3, e3, x3, y3, b3, b3'⟩ := pick_is hc p2 q2 6 (by omega) (by omega)
    obtain ⟨v4, p4, q4, e4, x4, y4, b4, b4'⟩ := pick_is hc p3 q3 4 (by omega) (by omega)
    obtain ⟨m0, m1⟩ := tmod_pick (v1 + 1 + v2) s (by omega) (by omega)
    have hm : Int.tmod (v1 + 1 + v2) s = (v1 + 1 + v2) % s := Int.tmod_eq_emod_of_nonneg (by omega)
    have hne : v1 ≠ Int.tmod (v1 + 1 + v2) s := by
      rw [hm]
      by_cases g : v1 + 1 + v2 < s
      · rw [Int.emod_eq_of_lt (by omega) g]; omega
      · have : (v1 + 1 + v2) % s = v1 + 1 + v2 - s := by
          rw [← Int.sub_emod_right, Int.emod_eq_of_lt (by omega) (by omega)]
        rw [this]; omega
    obtain ⟨M, hM⟩ : ∃ M, Int.tmod (v1 + 1 + v2) s = M := ⟨_, rfl⟩
    rw [hM] at m0 m1 hne
    have hD : LaneD s ⟨v1, M, 1 + v3, 1 + v3 + v4⟩ := ⟨⟨x1, by show v1 < s; omega⟩, ⟨m0, m1⟩, hne, ⟨by show 1 ≤ 1 + v3; omega, by show 1 + v3 ≤ 6; omega⟩, ⟨by show 1 + v3 ≤ 1 + v3 + v4; omega, by show 1 + v3 + v4 ≤ 9; omega⟩⟩
    obtain ⟨ls', a', z', hE, hE2, hE3⟩ := ih (ls ++ [⟨v1, M, 1 + v3, 1 + v3 + v4⟩]) p4 q4 (by rw [List.length_append, List.length_singleton]; omega) (fun x hx => by
      rcases List.mem_append.1 hx with hx | hx
      · exact hl x hx
      · rw [List.mem_singleton.1 hx]; exact hD) (by omega) (by omega)
    refine ⟨ls', a', z', ?_, by rw [hE2, List.length_append, List.length_singleton]; omega, hE3⟩
    refine Ev.step (fun k => ?_) hE
    have g1 : ((d + 1 : Nat) : Int) > 0 := by omega
    have g2 : ¬ s = 0 := by omega
    have g3 : ls.length < 23456248059221 := by omega
    have w1 : wrap64 (s - 1) = s - 1 := w_s (by omega) (by omega)
    have w2 : wrap64 (((d + 1 : Nat) : Int) - 1) = (d : Int) := by rw [w_s (by omega) (by omega)]; omega
    have w3 : wrap64 (v1 + 1) = v1 + 1 := w_s (by omega) (by omega)
    have w4 : wrap64 (v1 + 1 + v2) = v1 + 1 + v2 := w_s (by omega) (by omega)
    have w5 : wrap64 (1 + v3) = 1 + v3 := w_s (by omega) (by omega)
    have w6 : wrap64 (1 + v3 + v4) = 1 + v3 + v4 := w_s (by omega) (by omega)
    have u1 : IntKind.i8.wrap v1 = v1 := w_i8 x1 (by omega)
    have u2 : IntKind.i8.wrap M = M := w_i8 m0 (by omega)
    have u3 : IntKind.i16.wrap (1 + v3) = 1 + v3 := w_i16 (by omega) (by omega)
    have u4 : IntKind.i16.wrap (1 + v3 + v4) = 1 + v3 + v4 := w_i16 (by omega) (by omega)
    rw [spec_l07Drawn.l0, if_pos g1, e1, Option.bind_some, w1, e2, Option.bind_some, if_neg g2, e3, Option.bind_some, e4, Option.bind_some, if_pos g3, w2, w3, w4, hM, w5, w6, u1, u2, u3, u4]
/-- A net that was drawn. -/
structure NetD (s t : Int) (ls : List S44) : Prop where
  s2 : 2 ≤ s
  s5 : s ≤ 5
  t0 : 0 ≤ t
  t3 : t ≤ 3
  len : ls.length ≤ 7
  lane : ∀ x ∈ ls, LaneD s x
theorem P6Net_is {c : List Int} (hc : Byts c) : ∃ s t ls, Ev (fun k => spec_P6Net.f k c) (s, t, ls) ∧ NetD s t ls := by
  obtain ⟨v1, p1, q1, e1, x1, y1, b1, b1'⟩ := pick_is hc 0 0 4 (by omega) (by omega)
  obtain ⟨v2, p2, q2, e2, x2, y2, b2, b2'⟩ := pick_is hc p1 q1 4 (by omega) (by omega)
  obtain ⟨v3, p3, q3, e3, x3, y3, b3, b3'⟩ := pick_is hc p2 q2 7 (by omega) (by omega)
  obtain ⟨d, hd⟩ : ∃ d : Nat, 1 + v3 = (d : Int) := ⟨(1 + v3).toNat, by omega⟩
  obtain ⟨ls, a, z, hE, h2, h3⟩ := lanes_is hc (s := 2 + v1) (by omega) (by omega) v2 d [] p3 q3 (by simp; omega) (fun x hx => absurd hx List.not_mem_nil) (by omega) (by omega)
  refine ⟨2 + v1, v2, ls, ?_, ⟨by omega, by omega, x2, by omega, by rw [h2]; simp; omega, h3⟩⟩
  unfold spec_P6Net.f spec_l00From.f spec_l07Drawn.f
  have w1 : wrap64 (2 + v1) = 2 + v1 := w_s (by omega) (by omega)
  have w2 : wrap64 (1 + v3) = (d : Int) := by rw [hd]; exact w_s (by omega) (by omega)
  have u1 : IntKind.i8.wrap (2 + v1) = 2 + v1 := w_i8 (by omega) (by omega)
  have u2 : IntKind.i16.wrap v2 = v2 := w_i16 x2 (by omega)
  simp only [Option.bind_some, e1, e2, e3, w1, w2, u1, u2]
  exact Ev.bind hE (Ev.now _)
theorem P6Pick_is {c : List Int} (hc : Byts c) (n : Int) (hn : 1 ≤ n) : ∃ v, spec_P6Pick.f c n = some v ∧ 0 ≤ v ∧ v < n := by
  obtain ⟨v, a', s', e, v0, v1, _, _⟩ := pick_is hc 0 0 n (by omega) (by omega)
  refine ⟨v, ?_, v0, by omega⟩
  unfold spec_P6Pick.f spec_l00From.f
  simp only [Option.bind_some, e]
theorem P6Scan_is {c : List Int} (hc : Byts c) {s t : Int} {ls : List S44} (h : NetD s t ls) : ∃ st hr, spec_P6Scan.f c s t ls = some (st, hr) ∧ 0 ≤ st ∧ st < s ∧ 0 ≤ hr ∧ hr < 12 := by
  have h2 := h.s2
  have h5 := h.s5
  obtain ⟨v1, p1, q1, e1, x1, y1, b1, b1'⟩ := pick_is hc 0 0 s (by omega) (by omega)
  obtain ⟨v2, p2, q2, e2, x2, y2, b2, b2'⟩ := pick_is hc p1 q1 12 (by omega) (by omega)
  refine ⟨v1, v2, ?_, x1, by omega, x2, by omega⟩
  have w1 : wrap64 s = s := w_s (by omega) (by omega)
  have u1 : IntKind.i8.wrap v1 = v1 := w_i8 x1 (by omega)
  have u2 : IntKind.i16.wrap v2 = v2 := w_i16 x2 (by omega)
  unfold spec_P6Scan.f spec_l00From.f
  simp only [Option.bind_some, w1, e1, e2, u1, u2]
/-- Scans that were drawn. -/
structure ScanD (s : Int) (x : S31) : Prop where
  f0 : 0 ≤ x.f0 ∧ x.f0 < s
  f1 : 0 ≤ x.f1 ∧ x.f1 < 24
theorem scans_is {c : List Int} (hc : Byts c) {s t : Int} {ls : List S44} (h : NetD s t ls) : ∀ (d : Nat) (xs : List S31) (a z : Int), xs.length + d ≤ 4 → (∀ x ∈ xs, ScanD s x) → 0 ≤ a → a + 8 * d ≤ 1000 →
    ∃ xs', Ev (fun k => spec_P6Scans.l0 k xs (d : Int) s t ls c a z) xs' ∧ xs'.length = xs.length + d ∧ ∀ x ∈ xs', ScanD s x := by
  have h2 := h.s2
  have h5 := h.s5
  intro d
  induction d with
  | zero =>
    intro xs a z _ hl _ _
    refine ⟨xs, ?_, by omega, hl⟩
    refine Ev.step (f := fun _ => some xs) (fun k => ?_) (Ev.now _)
    rw [spec_P6Scans.l0, if_neg (by omega)]
  | succ d ih =>
    intro xs a z hlen hl a0 a1
    obtain ⟨v1, p1, q1, e1, x1, y1, b1, b1'⟩ := pick_is hc a z s a0 (by omega)
    obtain ⟨v2, p2, q2, e2, x2, y2, b2, b2'⟩ := pick_is hc p1 q1 24 (by omega) (by omega)
    have hD : ScanD s ⟨v1, v2⟩ := ⟨⟨x1, by show v1 < s; omega⟩, ⟨x2, by show v2 < 24; omega⟩⟩
    obtain ⟨xs', hE, hE2, hE3⟩ := ih (xs ++ [⟨v1, v2⟩]) p2 q2 (by rw [List.length_append, List.length_singleton]; omega) (fun x hx => by
      rcases List.mem_append.1 hx with hx | hx
      · exact hl x hx
      · rw [List.mem_singleton.1 hx]; exact hD) (by omega) (by omega)
    refine ⟨xs', ?_, by rw [hE2, List.length_append, List.length_singleton]; omega, hE3⟩
    refine Ev.step (fun k => ?_) hE
    have g1 : ((d + 1 : Nat) : Int) > 0 := by omega
    have g3 : xs.length < 35184372088832 := by omega
    have w1 : wrap64 s = s := w_s (by omega) (by omega)
    have w2 : wrap64 (((d + 1 : Nat) : Int) - 1) = (d : Int) := by rw [w_s (by omega) (by omega)]; omega
    have u1 : IntKind.i8.wrap v1 = v1 := w_i8 x1 (by omega)
    have u2 : IntKind.i16.wrap v2 = v2 := w_i16 x2 (by omega)
    rw [spec_P6Scans.l0, if_pos g1, w1, e1, Option.bind_some, e2, Option.bind_some, if_pos g3, w2, u1, u2]
theorem P6Scans_is {c : List Int} (hc : Byts c) {s t : Int} {ls : List S44} (h : NetD s t ls) : ∃ xs, Ev (fun k => spec_P6Scans.f k c s t ls) xs ∧ xs.length ≤ 4 ∧ ∀ x ∈ xs, ScanD s x := by
  obtain ⟨v1, p1, q1, e1, x1, y1, b1, b1'⟩ := pick_is hc 0 0 5 (by omega) (by omega)
  obtain ⟨d, hd⟩ : ∃ d : Nat, v1 = (d : Int) := ⟨v1.toNat, by omega⟩
  obtain ⟨xs, hE, h2, h3⟩ := scans_is hc h d [] p1 q1 (by simp; omega) (fun x hx => absurd hx List.not_mem_nil) (by omega) (by omega)
  refine ⟨xs, ?_, by rw [h2]; simp; omega, h3⟩
  unfold spec_P6Scans.f spec_l00From.f
  simp only [Option.bind_some, e1]
  rw [hd]
  exact hE
/-- A net that was drawn is valid, and can be read. -/
theorem NetD.ok {s t : Int} {ls : List S44} (h : NetD s t ls) : netB s t ls = true ∧ okNet s t ls = true := by
  have h2 := h.s2
  have h5 := h.s5
  have t0 := h.t0
  have t3 := h.t3
  have hl := h.len
  constructor
  · unfold netB inB
    simp only [Bool.and_eq_true, decide_eq_true_eq, Bool.not_eq_true', List.any_eq_false]
    refine ⟨⟨by omega, by omega⟩, ⟨by omega, by omega⟩, by omega, fun x hx => ?_⟩
    have hD := h.lane x hx
    have a0 := hD.f0
    have a1 := hD.f1
    have a2 := hD.f2
    have a3 := hD.f3
    have an := hD.ne
    unfold laneBad inB
    simp only [Bool.or_eq_true, Bool.not_eq_true', Bool.and_eq_false_iff, decide_eq_false_iff_not, decide_eq_true_eq, beq_iff_eq]
    omega
  · refine okNet_iff.2 ⟨by omega, fun x hx => okLane_iff.2 ?_⟩
    have hD := h.lane x hx
    have a0 := hD.f0
    have a1 := hD.f1
    have a2 := hD.f2
    have a3 := hD.f3
    omega
end Go.Proofs.Yticfecncdpdanaa.Q
