/- Times along a route, over lists alone: what a lane's hours are, how they add up. -/
import Derived.Test.YtkcfniilinokgaaHSNet
import Derived.Test.YtkcfniilinokgaaHA2M
import Derived.Test.YtkcfniilinokgaaRows2
set_option linter.unusedVariables false
set_option linter.unusedSimpArgs false
namespace Go.Proofs.Ytkcfniilinokgaa.Q
open Go.RowKit Go.Proofs.YtkcfniilinokgaaW.PrintWords Go.Proofs.YtkcfniilinokgaaW.PrintLast Go.Proofs.YtkcfniilinokgaaW.PrintMore
theorem infoA2 : (Try.prog.info? 51).map (fun i => (i.zero, i.size, i.bytes)) = some (some (.agg #[.int .i64 0, .int .i64 0]), 2, 16) := by kernel_rfl
/-- A lane more: the least and the most hours from f to t, and whether there is a lane. -/
def nextS (f t : Int) (st : Int × Int × Bool) (x : S55) : Int × Int × Bool :=
  if x.f0 = f ∧ x.f1 = t then (if st.2.2 = false ∨ x.f2 < st.1 then x.f2 else st.1, max st.2.1 x.f3, true) else st
def nextR (l : List S55) (f t : Int) : Int × Int × Bool := l.foldl (nextS f t) (0, 0, false)
def goR (l : List S55) (stay : Int) : Int → Int → Int → List Int → List Two2 → List Two2 × Int
  | p, low, high, [], acc => (acc, 0)
  | p, low, high, q :: r, acc => if (nextR l p q).2.2 = false ∨ 300 < low + (nextR l p q).1 then ([], 6)
      else goR l stay q (low + (nextR l p q).1) (high + ((nextR l p q).2.1 + stay)) r (acc ++ [⟨low + (nextR l p q).1, high + ((nextR l p q).2.1 + stay)⟩])
def timesR (l : List S55) (stay hour : Int) : List Int → List Two2 × Int
  | [] => ([], 0)
  | s :: r => goR l stay s hour hour r [⟨hour, hour⟩]
def routeC (s t : Int) (l : List S55) (route : List Int) (hour : Int) : Int := codeB (netB s t l) (inB hour 0 300 && allIn route 0 (s - 1))
def routeR (s t : Int) (l : List S55) (route : List Int) (hour : Int) : List Two2 × Int :=
  if routeC s t l route hour = 0 then (if 12 < route.length then ([], 3) else timesR l t hour route) else ([], routeC s t l route hour)
/-- Where a walk along the route stands: k stations are told. -/
def AtR (l : List S55) (stay hour : Int) (route : List Int) (k : Nat) (low high : Int) (acc : List Two2) (R : List Two2 × Int) : Prop :=
  acc.length = k ∧ ((k = 0 ∧ low = hour ∧ high = hour ∧ timesR l stay hour route = R) ∨ (0 < k ∧ acc.getD (k - 1) z51 = ⟨low, high⟩ ∧ goR l stay (route.getD (k - 1) 0) low high (route.drop k) acc = R))
variable {l : List S55} {stay hour : Int} {route : List Int} {k : Nat} {low high : Int} {acc : List Two2} {R : List Two2 × Int}
theorem AtR.start : AtR l stay hour route 0 hour hour [] (timesR l stay hour route) := ⟨rfl, Or.inl ⟨rfl, rfl, rfl, rfl⟩⟩
theorem AtR.first (h : AtR l stay hour route 0 low high acc R) (hk : 0 < route.length) : AtR l stay hour route 1 hour hour (acc ++ [⟨hour, hour⟩]) R := by
  obtain ⟨ha, ⟨_, _, _, h⟩ | ⟨h, _⟩⟩ := h
  · obtain rfl := List.eq_nil_of_length_eq_zero ha
    refine ⟨rfl, Or.inr ⟨by omega, rfl, ?_⟩⟩
    cases route with
    | nil => simp at hk
    | cons s r => exact h
  · omega
theorem AtR.step (h : AtR l stay hour route k low high acc R) (h0 : 0 < k) (hk : k < route.length) : goR l stay (route.getD (k - 1) 0) low high (route.getD k 0 :: route.drop (k + 1)) acc = R := by
  obtain ⟨ha, ⟨h, _⟩ | ⟨_, _, h⟩⟩ := h
  · omega
  · rwa [List.drop_eq_getElem_cons hk, show route[k] = route.getD k 0 by rw [List.getD_eq_getElem?_getD, List.getElem?_eq_getElem hk]; rfl] at h
theorem AtR.stop (h : AtR l stay hour route k low high acc R) (h0 : 0 < k) (hk : k < route.length) (hb : (nextR l (route.getD (k - 1) 0) (route.getD k 0)).2.2 = false ∨ 300 < low + (nextR l (route.getD (k - 1) 0) (route.getD k 0)).1) : R = ([], 6) := by
  have := h.step h0 hk
  rw [goR, if_pos hb] at this
  exact this.symm
theorem AtR.next (h : AtR l stay hour route k low high acc R) (h0 : 0 < k) (hk : k < route.length) (hb : ¬ ((nextR l (route.getD (k - 1) 0) (route.getD k 0)).2.2 = false ∨ 300 < low + (nextR l (route.getD (k - 1) 0) (route.getD k 0)).1)) :
    AtR l stay hour route (k + 1) (low + (nextR l (route.getD (k - 1) 0) (route.getD k 0)).1) (high + ((nextR l (route.getD (k - 1) 0) (route.getD k 0)).2.1 + stay)) (acc ++ [⟨low + (nextR l (route.getD (k - 1) 0) (route.getD k 0)).1, high + ((nextR l (route.getD (k - 1) 0) (route.getD k 0)).2.1 + stay)⟩]) R := by
  have hs := h.step h0 hk
  rw [goR, if_neg hb] at hs
  have ha := h.1
  refine ⟨by rw [List.length_append, List.length_singleton, ha], Or.inr ⟨by omega, ?_, ?_⟩⟩
  · rw [List.getD_eq_getElem?_getD, List.getElem?_append_right (by omega), ha, Nat.add_sub_cancel, Nat.sub_self]
    rfl
  · rw [Nat.add_sub_cancel]
    exact hs
theorem AtR.done (h : AtR l stay hour route k low high acc R) (hk : k = route.length) : R = (acc, 0) := by
  obtain ⟨ha, ⟨h0, _, _, h⟩ | ⟨h0, _, h⟩⟩ := h
  · obtain rfl := List.eq_nil_of_length_eq_zero (show route.length = 0 by omega)
    obtain rfl := List.eq_nil_of_length_eq_zero (show acc.length = 0 by omega)
    exact h.symm
  · rw [List.drop_of_length_le (by omega)] at h
    exact h.symm
/-- The hours of a lane are small. -/
def smallL (l : List S55) : Prop := ∀ x ∈ l, 1 ≤ x.f2 ∧ x.f2 ≤ 100 ∧ 0 ≤ x.f3 ∧ x.f3 ≤ 100
theorem small_lanes {s t : Int} (h : netB s t l = true) : smallL l := by
  unfold netB at h
  rw [Bool.and_eq_true, Bool.and_eq_true, Bool.and_eq_true] at h
  obtain ⟨h1, h2, h3, h4⟩ := h
  intro x hx
  have h5 : l.any (laneBad s) = false := by simpa using h4
  have := List.any_eq_false.1 h5 x hx
  unfold laneBad at this
  have h6 : inB x.f2 1 x.f3 = true ∧ ¬ 40 < x.f3 := by
    cases ha : inB x.f0 0 (s - 1) <;> cases hb : inB x.f1 0 (s - 1) <;> cases hc : inB x.f2 1 x.f3 <;> simp [ha, hb, hc] at this ⊢
    exact this.2
  have hc := inB_true.1 h6.1
  have hd := h6.2
  omega
theorem next_small (f t : Int) (h : smallL l) (m : List S55) (hm : ∀ x ∈ m, x ∈ l) : 0 ≤ (nextR m f t).1 ∧ (nextR m f t).1 ≤ 100 ∧ 0 ≤ (nextR m f t).2.1 ∧ (nextR m f t).2.1 ≤ 100 := by
  unfold nextR
  suffices key : ∀ (m : List S55) (st : Int × Int × Bool), (∀ x ∈ m, x ∈ l) → (0 ≤ st.1 ∧ st.1 ≤ 100 ∧ 0 ≤ st.2.1 ∧ st.2.1 ≤ 100) → 0 ≤ (m.foldl (nextS f t) st).1 ∧ (m.foldl (nextS f t) st).1 ≤ 100 ∧ 0 ≤ (m.foldl (nextS f t) st).2.1 ∧ (m.foldl (nextS f t) st).2.1 ≤ 100 from key m _ hm ⟨by decide, by decide, by decide, by decide⟩
  intro m
  induction m with
  | nil => intro st _ h; exact h
  | cons x m ih =>
    intro st hm hst
    rw [List.foldl_cons]
    refine ih _ (fun y hy => hm y (List.mem_cons_of_mem _ hy)) ?_
    have hx := h x (hm x List.mem_cons_self)
    unfold nextS
    split
    · simp only
      refine ⟨?_, ?_, by omega, by omega⟩ <;> split <;> omega
    · exact hst
theorem next_take (f t : Int) (l : List S55) (k : Nat) (hk : k < l.length) : nextR (l.take (k + 1)) f t = nextS f t (nextR (l.take k) f t) (l.getD k z55) := by
  unfold nextR
  rw [List.take_add_one, List.getElem?_eq_getElem hk, List.foldl_append, List.getD_eq_getElem?_getD, List.getElem?_eq_getElem hk]
  rfl
end Go.Proofs.Ytkcfniilinokgaa.Q
