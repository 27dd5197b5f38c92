/- How many ways there are to pay: impl's and spec's loops are the same; there is one just where the amount can be paid. -/
import Derived.Test.YtlcnjpibfjhibaaGrPure
set_option linter.unusedVariables false
set_option linter.unusedSimpArgs false
namespace Go.Proofs.Ytlcnjpibfjhibaa.Q
open Go.RowKit Go.Proofs.YtlcnjpibfjhibaaW.PrintWords Go.Proofs.Ytlcnjpibfjhibaa.Loops Go.Proofs.Ytlcnjpibfjhibaa.Pay
theorem paid_snoc {us : List Int} {v : Int} (hu : ∀ u ∈ us, 1 ≤ u) (hv : 1 ≤ v) {b : Int} : Paid (us ++ [v]) b ↔ Paid us b ∨ (v ≤ b ∧ Paid (us ++ [v]) (b - v)) := by
  have hall : ∀ u ∈ us ++ [v], 1 ≤ u := fun u h => by
    rcases List.mem_append.1 h with h | h
    · exact hu u h
    · rw [List.mem_singleton.1 h]; exact hv
  have up : ∀ {c : Int}, Paid us c → Paid (us ++ [v]) c := fun h => by
    induction h with
    | zero => exact .zero
    | step _ hm ih => exact .step ih (List.mem_append_left _ hm)
  constructor
  · intro h
    induction h with
    | zero => exact .inl .zero
    | @step a x h hm ih =>
      rcases List.mem_append.1 hm with hm | hm
      · rcases ih with ih | ⟨h1, h2⟩
        · exact .inl (.step ih hm)
        · refine .inr ⟨by have := hu x hm; omega, ?_⟩
          have := Paid.step h2 (List.mem_append_left [v] hm)
          rw [show a + x - v = a - v + x by omega]
          exact this
      · obtain rfl := List.mem_singleton.1 hm
        refine .inr ⟨by have := h.nonneg hall; omega, ?_⟩
        rw [show a + x - x = a by omega]
        exact h
  · rintro (h | ⟨_, h⟩)
    · exact up h
    · have := Paid.step h (v := v) (by simp)
      rw [show b - v + v = b by omega] at this
      exact this
/-- Both loops are the same. -/
theorem ways_same (vs : List Int) (p : Int) : ∀ k : Nat, (∀ row i, impl_WaysToPay.l0 k p row vs (vs.length : Int) i = spec_WaysToPay.l0 k vs p row i) ∧ (∀ row i x, 0 ≤ i → i < (vs.length : Int) → impl_WaysToPay.l1 k p row (rd vs i) x vs (vs.length : Int) i = spec_WaysToPay.l1 k vs p row i x)
  | 0 => ⟨fun row i => by rw [impl_WaysToPay.l0, spec_WaysToPay.l0], fun row i x _ _ => by rw [impl_WaysToPay.l1, spec_WaysToPay.l1]⟩
  | k + 1 => by
    obtain ⟨h0, h1⟩ := ways_same vs p k
    refine ⟨fun row i => ?_, fun row i x g0 g1 => ?_⟩
    · rw [impl_WaysToPay.l0, spec_WaysToPay.l0]
      by_cases c1 : i < (vs.length : Int)
      · by_cases c2 : 0 ≤ i
        · simp only [if_pos c1, if_pos c2]
          exact h1 row i _ c2 c1
        · simp only [if_pos c1, if_neg c2]
      · simp only [if_neg c1]
    · rw [impl_WaysToPay.l1, spec_WaysToPay.l1]
      by_cases c1 : x ≤ p
      · rw [if_pos c1, if_pos c1]
        by_cases c2 : 0 ≤ x
        · rw [if_pos c2, if_pos c2]
          by_cases c3 : x < (row.length : Int)
          · rw [if_pos c3, if_pos c3, if_pos g0, if_pos g1]
            by_cases c4 : 0 ≤ wrap64 (x - rd vs i)
            · rw [if_pos c4, if_pos c4]
              by_cases c5 : wrap64 (x - rd vs i) < (row.length : Int)
              · rw [if_pos c5, if_pos c5]
                exact h1 _ i _ g0 g1
              · rw [if_neg c5, if_neg c5]
            · rw [if_neg c4, if_neg c4]
          · rw [if_neg c3, if_neg c3]
        · rw [if_neg c2, if_neg c2]
      · rw [if_neg c1, if_neg c1]
        exact h0 row _
/-- What a row tells, i values being looked at. -/
structure WayI (vs : List Int) (m : Nat) (i : Nat) (B : Int) (row : List Int) : Prop where
  len : row.length = m
  pos : ∀ b, b < m → (0 < row.getD b 0 ↔ Paid (vs.take i) (b : Int))
  bnd : ∀ b, b < m → 0 ≤ row.getD b 0 ∧ row.getD b 0 ≤ B
structure WayJ (vs : List Int) (m : Nat) (i : Nat) (B : Int) (x : Nat) (row : List Int) : Prop where
  len : row.length = m
  done : ∀ b, b < m → b < x → (0 < row.getD b 0 ↔ Paid (vs.take (i + 1)) (b : Int))
  rest : ∀ b, b < m → x ≤ b → (0 < row.getD b 0 ↔ Paid (vs.take i) (b : Int)) ∧ row.getD b 0 ≤ B
  bnd : ∀ b, b < m → 0 ≤ row.getD b 0 ∧ row.getD b 0 ≤ B * ((b : Int) + 1)
theorem take_snoc (vs : List Int) (i : Nat) (h : i < vs.length) : vs.take (i + 1) = vs.take i ++ [vs.getD i 0] := by
  rw [List.take_add_one, List.getD_eq_getElem?_getD, List.getElem?_eq_getElem h]; rfl
theorem WayJ.start {vs : List Int} (hv : ∀ v ∈ vs, 1 ≤ v) {m i : Nat} {B : Int} (hB : 0 ≤ B) {row : List Int} (h : WayI vs m i B row) (hi : i < vs.length) {x : Nat} (hx : (x : Int) = vs.getD i 0) : WayJ vs m i B x row := by
  have hu : ∀ u ∈ vs.take i, 1 ≤ u := fun u hu => hv u (List.mem_of_mem_take hu)
  have hm := hv (vs.getD i 0) (by rw [List.getD_eq_getElem?_getD, List.getElem?_eq_getElem hi]; exact List.getElem_mem _)
  refine ⟨h.len, fun b hb hbx => ?_, fun b hb _ => ⟨h.pos b hb, (h.bnd b hb).2⟩, fun b hb => ?_⟩
  · rw [take_snoc vs i hi, paid_snoc hu hm, h.pos b hb]
    exact ⟨.inl, fun q => q.elim id (fun q => by have := q.1; omega)⟩
  · have := h.bnd b hb
    have h1 : B * 1 ≤ B * ((b : Int) + 1) := Int.mul_le_mul_of_nonneg_left (by omega) hB
    rw [Int.mul_one] at h1
    omega
theorem WayJ.next {vs : List Int} (hv : ∀ v ∈ vs, 1 ≤ v) {m i : Nat} {B : Int} (hB : 0 ≤ B) {row : List Int} {x y : Nat} (h : WayJ vs m i B x row) (hi : i < vs.length) (hx : x < m) (hy : (y : Int) = (x : Int) - vs.getD i 0) : WayJ vs m i B (x + 1) (row.set x (row.getD x 0 + row.getD y 0)) := by
  have hu : ∀ u ∈ vs.take i, 1 ≤ u := fun u hu => hv u (List.mem_of_mem_take hu)
  have hm := hv (vs.getD i 0) (by rw [List.getD_eq_getElem?_getD, List.getElem?_eq_getElem hi]; exact List.getElem_mem _)
  have hget : ∀ j, (row.set x (row.getD x 0 + row.getD y 0)).getD j 0 = if j = x then row.getD x 0 + row.getD y 0 else row.getD j 0 := fun j => setN _ _ _ _ (by rw [h.len]; exact hx)
  have hyx : y < x := by omega
  have b1 := h.bnd x hx
  have b2 := h.bnd y (by omega)
  have r1 := h.rest x hx (Nat.le_refl _)
  have d1 := h.done y (by omega) hyx
  refine ⟨by simp [h.len], fun b hb hbx => ?_, fun b hb hbx => ?_, fun b hb => ?_⟩
  · rw [hget]
    by_cases e : b = x
    · subst e
      rw [if_pos rfl, take_snoc vs i hi, paid_snoc hu hm, ← r1.1, ← hy, ← take_snoc vs i hi, ← d1]
      constructor
      · intro q
        by_cases q1 : 0 < row.getD b 0
        · exact .inl q1
        · exact .inr ⟨by omega, by omega⟩
      · rintro (q | ⟨_, q⟩) <;> omega
    · rw [if_neg e]
      exact h.done b hb (by omega)
  · rw [hget, if_neg (by omega)]
    exact h.rest b hb (by omega)
  · rw [hget]
    by_cases e : b = x
    · subst e
      rw [if_pos rfl]
      have h1 : B * ((y : Int) + 1) ≤ B * (b : Int) := Int.mul_le_mul_of_nonneg_left (by omega) hB
      have h2 : B * ((b : Int) + 1) = B * (b : Int) + B := by rw [Int.mul_add, Int.mul_one]
      omega
    · rw [if_neg e]
      exact h.bnd b hb
def wayM : Nat → Int
  | 0 => 1
  | i + 1 => wayM i * 100
theorem wayM_pos : ∀ i, 0 ≤ wayM i
  | 0 => by decide
  | i + 1 => Int.mul_nonneg (wayM_pos i) (by decide)
theorem wayM_le : ∀ i, i ≤ 5 → wayM i ≤ 10000000000 := by
  intro i hi
  rcases i with _ | _ | _ | _ | _ | _ | i <;> first | decide | omega
theorem ways_ev {vs : List Int} (hv : ∀ v ∈ vs, 1 ≤ v ∧ v ≤ 1000000) (hn : vs.length ≤ 5) {p : Nat} (hp : p + 1 ≤ 100) : ∀ (d i : Nat) (row : List Int), i + d = vs.length → WayI vs (p + 1) i (wayM i) row → ∃ w, Ev (fun k => spec_WaysToPay.l0 k vs (p : Int) row (i : Int)) (w, 0) ∧ (0 < w ↔ Paid vs (p : Int)) := by
  have hv' : ∀ v ∈ vs, 1 ≤ v := fun v h => (hv v h).1
  intro d
  induction d with
  | zero =>
    intro i row hi h
    obtain rfl : i = vs.length := by omega
    refine ⟨row.getD p 0, ?_, ?_⟩
    · have hl := h.len
      refine Ev.step (f := fun _ => some (row.getD p 0, 0)) (fun k => ?_) (Ev.now _)
      rw [spec_WaysToPay.l0, if_neg (by omega), if_pos (by omega), if_pos (by omega), rdn]
    · have := h.pos p (by omega)
      rw [List.take_length] at this
      exact this
  | succ d ih =>
    intro i row hi h
    have hil : i < vs.length := by omega
    have hm := hv (vs.getD i 0) (by rw [List.getD_eq_getElem?_getD, List.getElem?_eq_getElem hil]; exact List.getElem_mem _)
    obtain ⟨x0, hx0⟩ : ∃ x0 : Nat, (x0 : Int) = vs.getD i 0 := ⟨(vs.getD i 0).toNat, by omega⟩
    have hMp := wayM_pos i
    have hMl := wayM_le i (by omega)
    have inner : ∀ (e x : Nat) (row : List Int), x + e = p + 1 ∨ (e = 0 ∧ p + 1 ≤ x) → x0 ≤ x → WayJ vs (p + 1) i (wayM i) x row → ∃ w, Ev (fun k => spec_WaysToPay.l1 k vs (p : Int) row (i : Int) (x : Int)) (w, 0) ∧ (0 < w ↔ Paid vs (p : Int)) := by
      intro e
      induction e with
      | zero =>
        intro x row hx hx1 hJ
        have hI : WayI vs (p + 1) (i + 1) (wayM (i + 1)) row := ⟨hJ.len, fun b hb => hJ.done b hb (by omega), fun b hb => by
          have h1 := hJ.bnd b hb
          have h2 : wayM i * ((b : Int) + 1) ≤ wayM i * 100 := Int.mul_le_mul_of_nonneg_left (by omega) hMp
          exact ⟨h1.1, Int.le_trans h1.2 h2⟩⟩
        obtain ⟨w, hw, hw2⟩ := ih (i + 1) row (by omega) hI
        refine ⟨w, Ev.step (fun k => ?_) hw, hw2⟩
        rw [spec_WaysToPay.l1, if_neg (by omega), w_next (by omega)]
      | succ e ihe =>
        intro x row hx hx1 hJ
        have hxm : x < p + 1 := by omega
        obtain ⟨y, hy⟩ : ∃ y : Nat, (y : Int) = (x : Int) - vs.getD i 0 := ⟨((x : Int) - vs.getD i 0).toNat, by omega⟩
        obtain ⟨w, hw, hw2⟩ := ihe (x + 1) _ (by omega) (by omega) (hJ.next hv' hMp hil hxm hy)
        refine ⟨w, Ev.step (fun k => ?_) hw, hw2⟩
        have hl := hJ.len
        have b1 := hJ.bnd x hxm
        have b2 := hJ.bnd y (by omega)
        have g1 : wayM i * ((x : Int) + 1) ≤ wayM i * 100 := Int.mul_le_mul_of_nonneg_left (by omega) hMp
        have g2 : wayM i * ((y : Int) + 1) ≤ wayM i * 100 := Int.mul_le_mul_of_nonneg_left (by omega) hMp
        obtain ⟨u1, hu1⟩ : ∃ u, row.getD x 0 = u := ⟨_, rfl⟩
        obtain ⟨u2, hu2⟩ : ∃ u, row.getD y 0 = u := ⟨_, rfl⟩
        rw [hu1] at b1
        rw [hu2] at b2
        have s0 : 0 ≤ u1 + u2 := by omega
        have s1 : u1 + u2 ≤ 1000000000000000 := by omega
        have y0 : (0 : Int) ≤ (y : Int) := by omega
        have y1 : (y : Int) ≤ 1000000000000 := by omega
        have y2 : (y : Int) < (row.length : Int) := by omega
        have c1 : (x : Int) ≤ (p : Int) := by omega
        have c2 : (0 : Int) ≤ (x : Int) := by omega
        have c3 : (x : Int) < (row.length : Int) := by omega
        have c4 : (0 : Int) ≤ (i : Int) := by omega
        have c5 : (i : Int) < (vs.length : Int) := by omega
        have c6 : x ≤ 1000000 := by omega
        rw [spec_WaysToPay.l1, if_pos c1, if_pos c2, if_pos c3, if_pos c4, if_pos c5, rdn, rdn, ← hy, w_small y0 y1, if_pos y0, if_pos y2, rdn, hu1, hu2, w_mid2 s0 s1, Int.toNat_natCast, w_next c6]
    obtain ⟨w, hw, hw2⟩ := inner (p + 1 - x0) x0 row (by omega) (Nat.le_refl _) (WayJ.start hv' hMp h hil hx0)
    refine ⟨w, Ev.step (fun k => ?_) hw, hw2⟩
    rw [spec_WaysToPay.l0, if_pos (by omega), if_pos (by omega), rdn, hx0]
theorem way_start (vs : List Int) (hv : ∀ v ∈ vs, 1 ≤ v) (m : Nat) (hm : 0 < m) : WayI vs m 0 (wayM 0) ((List.replicate m 0).set 0 1) := by
  have hget : ∀ j, ((List.replicate m (0 : Int)).set 0 1).getD j 0 = if j = 0 then 1 else 0 := fun j => by
    rw [setN _ _ _ _ (by simpa using hm), rep_get]
  refine ⟨by simp, fun b hb => ?_, fun b hb => ?_⟩
  · rw [hget, List.take_zero]
    by_cases e : b = 0
    · subst e
      rw [if_pos rfl]
      exact ⟨fun _ => .zero, fun _ => by decide⟩
    · rw [if_neg e]
      refine ⟨fun q => by omega, fun q => ?_⟩
      exfalso
      obtain ⟨c, hc⟩ := q.count
      have := (PaidC_nil hc).2
      omega
  · rw [hget]
    split <;> (unfold wayM; omega)
set_option maxHeartbeats 60000 in
/-- The ways, and that there is one just where the amount can be paid. -/
theorem Ways_is {vs : List Int} (h : Vals vs) (hn : vs.length ≤ 5) (p : Nat) (hp : p < 99) : ∃ w, Ev (fun k => impl_WaysToPay.f k vs (p : Int)) (w, 0) ∧ Ev (fun k => spec_WaysToPay.f k vs (p : Int)) (w, 0) ∧ (0 < w ↔ Paid vs (p : Int)) := by
  have hv : ∀ v ∈ vs, 1 ≤ v ∧ v ≤ 1000000 := fun v hv => by have := h.mem v hv; omega
  obtain ⟨w, hw, hw2⟩ := ways_ev hv hn (p := p) (by omega) vs.length 0 _ (by omega) (way_start vs (fun v h => (hv v h).1) (p + 1) (by omega))
  have p0 : (0 : Int) ≤ (p : Int) := by omega
  have p1 : (p : Int) ≤ 1000 := by omega
  have q1 : (0 : Int) ≤ ((p + 1 : Nat) : Int) := by omega
  have q2 : p + 1 ≤ 35184372088832 := by omega
  have q3 : (0 : Int) < ((p + 1 : Nat) : Int) := by omega
  have e1 : (wrap64 ((p : Int) + 1)) = ((p + 1 : Nat) : Int) := w_next (by omega)
  refine ⟨w, ?_, ?_, hw2⟩
  · unfold impl_WaysToPay.f
    refine Ev.bind (valuesCode_is h _ _ p0 p1) ?_
    simp only [if_true, e1, Int.toNat_natCast, Option.bind_some, List.length_replicate, if_pos q1, if_pos q2, if_pos q3]
    refine Ev.congr (fun k => ?_) hw
    exact (ways_same vs (p : Int) k).1 _ _
  · unfold spec_WaysToPay.f
    rw [l01PostageB_is _ p0 p1]
    refine Ev.bind (Ev.now true) ?_
    refine Ev.bind (l01Asked_is h) ?_
    refine Ev.congr (fun k => ?_) hw
    rw [if_pos rfl, e1, if_pos q1, Int.toNat_natCast, if_pos q2, Option.bind_some, List.length_replicate, if_pos q3]
    rfl
end Go.Proofs.Ytlcnjpibfjhibaa.Q
