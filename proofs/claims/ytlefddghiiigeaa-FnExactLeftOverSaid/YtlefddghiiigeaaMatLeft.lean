/- What LeftOver returns on both sides. -/
import Derived.Test.YtlefddghiiigeaaMatSides
set_option linter.unusedVariables false
set_option linter.unusedSimpArgs false
namespace Go.Proofs.Ytlefddghiiigeaa.Q
open Go.RowKit Go.Proofs.YtlefddghiiigeaaW.PrintWords Go.Proofs.YtlefddghiiigeaaW.PrintMore Go.Proofs.Ytlefddghiiigeaa.Loops
def subM (s : List Int) (x : S53) : List Int := s.set x.f0.toNat (s.getD x.f0.toNat 0 - x.f2)
theorem subM_len (s : List Int) (x : S53) : (subM s x).length = s.length := by unfold subM; rw [List.length_set]
theorem subs_len : ∀ (o : List S53) (s : List Int), (o.foldl subM s).length = s.length
  | [], s => rfl
  | x :: o, s => by rw [List.foldl_cons, subs_len o, subM_len]
theorem numOf_cons (x : S53) (o : List S53) (r : Nat) : numOf (x :: o) r = (if x.f0 = (r : Int) then x.f2 else 0) + numOf o r := by
  unfold numOf
  by_cases c : x.f0 = (r : Int)
  · rw [List.filter_cons, if_pos (by simp [c]), if_pos c]; simp
  · rw [List.filter_cons, if_neg (by simp [c]), if_neg c]; simp
theorem subs_get (n : Nat) : ∀ (o : List S53) (s : List Int), s.length = n → (∀ x ∈ o, 0 ≤ x.f0 ∧ x.f0 < n) → ∀ j, j < n → (o.foldl subM s).getD j 0 = s.getD j 0 - numOf o j
  | [], s, hs, ho, j, hj => by
    rw [List.foldl_nil, show numOf ([] : List S53) j = 0 from rfl]; omega
  | x :: o, s, hs, ho, j, hj => by
    obtain ⟨h0, h1⟩ := ho x (by simp)
    rw [List.foldl_cons, subs_get n o _ (by rw [subM_len]; exact hs) (fun y hy => ho y (by simp [hy])) j hj, numOf_cons]
    unfold subM
    rw [getD_set]
    by_cases c : x.f0 = (j : Int)
    · rw [if_pos ⟨by omega, by omega⟩, if_pos c, show x.f0.toNat = j by omega]; omega
    · rw [if_neg (fun q => c (by omega)), if_neg c]; omega
theorem subs_is {m : List S50} {o : List S53} {ov : List Int} (H : Cnt m m.length o ov) : o.foldl subM (m.map (·.f2)) = ov := by
  apply List.ext_getElem
  · rw [subs_len, List.length_map, H.len]
  · intro j h1 h2
    rw [subs_len, List.length_map] at h1
    have h3 := subs_get m.length o (m.map (·.f2)) (by rw [List.length_map]) (fun x hx => ⟨(H.pl x hx).1, (H.pl x hx).2.1⟩) j h1
    have h4 := H.val j h1
    have h5 : (m.map (·.f2)).getD j 0 = (m.getD j z50).f2 := by
      rw [List.getD_eq_getElem?_getD, List.getElem?_map, List.getElem?_eq_getElem h1, List.getD_eq_getElem?_getD, List.getElem?_eq_getElem h1]; rfl
    rw [h5, ← h4, List.getD_eq_getElem?_getD, List.getElem?_eq_getElem (by rw [subs_len, List.length_map]; exact h1), List.getD_eq_getElem?_getD, List.getElem?_eq_getElem h2] at h3
    exact h3
theorem sLeft1 (m : List S50) (o : List S53) (ho : o.length ≤ 1600) (hp : ∀ x ∈ o, 0 ≤ x.f0 ∧ x.f0 < m.length ∧ 0 ≤ x.f2 ∧ x.f2 ≤ 100) (s : List Int) (hs : s.length = m.length) (hv : ∀ j, 0 ≤ s.getD j 0 ∧ s.getD j 0 ≤ 100) (k : Nat) (hk : o.length < k) :
    spec_LeftOver.l1 k s o 0 = some (o.foldl subM s, 0) := by
  refine fold_from (fun k s i => spec_LeftOver.l1 k s o i) subM z53 o (fun i s => s.length = m.length ∧ ∀ j, -(100 * (i : Int)) ≤ s.getD j 0 ∧ s.getD j 0 ≤ 100) 0 (fun s => some (s, 0)) (fun k s i hi hP => ?_) (fun s i hi hP => ?_) (fun k s _ hP => ?_) k s (by omega) ⟨hs, fun j => ⟨by have := (hv j).1; omega, (hv j).2⟩⟩
  · obtain ⟨h1, h2⟩ := hP
    have hx := hp _ (getD_mem o z53 i hi)
    show spec_LeftOver.l1 (k + 1) s o i = _
    simp only [spec_LeftOver.l1]
    have hrd : rd_T53 o (i : Int) = o.getD i z53 := by simp only [rd_T53, Int.toNat_natCast]
    rw [hrd]
    generalize o.getD i z53 = x at hx
    have hg := h2 x.f0.toNat
    have i1 : (i : Int) < (o.length : Int) := by omega
    have i2 : (0 : Int) ≤ (i : Int) := by omega
    have i3 : x.f0 < (s.length : Int) := by omega
    have e1 : wrap64 x.f2 = x.f2 ∧ wrap64 (s.getD x.f0.toNat 0 - x.f2) = s.getD x.f0.toNat 0 - x.f2 ∧ wrap64 ((i : Int) + 1) = ((i + 1 : Nat) : Int) := ⟨wrap_mid (by omega) (by omega), wrap_mid (by omega) (by omega), by rw [wrap_mid (by omega) (by omega)]; rfl⟩
    obtain ⟨e1, e2, e3⟩ := e1
    rw [if_pos i1, if_pos i2, if_pos hx.1, if_pos i3, e1, e3, show rd s x.f0 = s.getD x.f0.toNat 0 from rfl, e2]
    rfl
  · obtain ⟨h1, h2⟩ := hP
    have hx := hp _ (getD_mem o z53 i hi)
    refine ⟨by rw [subM_len]; exact h1, fun j => ?_⟩
    generalize o.getD i z53 = x at hx
    have hg := h2 x.f0.toNat
    have hj := h2 j
    unfold subM
    rw [getD_set]
    split <;> omega
  · show spec_LeftOver.l1 (k + 1) s o _ = _
    simp only [spec_LeftOver.l1]
    rw [if_neg (by omega)]
theorem sLeft0 (l : List S55) (m : List S50) (days : Int) (hm : m.length ≤ 40) (hv : ∀ x ∈ m, 0 ≤ x.f2 ∧ x.f2 ≤ 100) (o : List S53) (hO : spec_l06Matches.f l m days = some o) (ho : o.length ≤ 1600) (hp : ∀ x ∈ o, 0 ≤ x.f0 ∧ x.f0 < m.length ∧ 0 ≤ x.f2 ∧ x.f2 ≤ 100) :
    ∀ (j i k : Nat), i + j = m.length → o.length + j + 1 < k → spec_LeftOver.l0 k l m days ((m.take i).map (·.f2)) (i : Int) = some (o.foldl subM (m.map (·.f2)), 0)
  | 0, i, k, hij, hk => by
    obtain ⟨k, rfl⟩ : ∃ n, k = n + 1 := ⟨k - 1, by omega⟩
    have hi : i = m.length := by omega
    subst hi
    simp only [spec_LeftOver.l0]
    rw [if_neg (by omega), hO, Option.bind_some, List.take_length]
    refine sLeft1 m o ho hp _ (by rw [List.length_map]) (fun j => ?_) k (by omega)
    by_cases h : j < m.length
    · rw [List.getD_eq_getElem?_getD, List.getElem?_map, List.getElem?_eq_getElem h]
      exact hv _ (List.getElem_mem h)
    · rw [List.getD_eq_getElem?_getD, List.getElem?_eq_none (by rw [List.length_map]; omega)]
      exact ⟨by decide, by decide⟩
  | j + 1, i, k, hij, hk => by
    obtain ⟨k, rfl⟩ : ∃ n, k = n + 1 := ⟨k - 1, by omega⟩
    have hi : i < m.length := by omega
    simp only [spec_LeftOver.l0]
    have hrd : rd_T50 m (i : Int) = m.getD i z50 := by simp only [rd_T50, Int.toNat_natCast]
    have hx := hv _ (getD_mem m z50 i hi)
    have i1 : (i : Int) < (m.length : Int) := by omega
    have i2 : (0 : Int) ≤ (i : Int) := by omega
    have i3 : ((m.take i).map (·.f2)).length < 17592186044416 := by rw [List.length_map, List.length_take]; omega
    have e1 : wrap64 (m.getD i z50).f2 = (m.getD i z50).f2 ∧ wrap64 ((i : Int) + 1) = ((i + 1 : Nat) : Int) := ⟨wrap_mid (by omega) (by omega), by rw [wrap_mid (by omega) (by omega)]; rfl⟩
    obtain ⟨e1, e3⟩ := e1
    rw [if_pos i1, if_pos i2, if_pos i3, hrd, e1, e3]
    have e4 : (m.take i).map (·.f2) ++ [(m.getD i z50).f2] = (m.take (i + 1)).map (·.f2) := by
      rw [List.take_succ_eq_append_getElem hi, List.map_append, List.getD_eq_getElem?_getD, List.getElem?_eq_getElem hi]; rfl
    rw [e4]
    clear e1 e3 e4
    exact sLeft0 l m days hm hv o hO ho hp j (i + 1) k (by omega) (by omega)
def leftRes (l : List S55) (m : List S50) (days : Int) : List Int × Int := if codeM l m days = 0 then ((runI l m days).2, 0) else ([], codeM l m days)
section
variable (l : List S55) (m : List S50) (days : Int) (hok : l.all okOrder = true) (hom : m.all okReturn = true)
theorem iLeft_is (k : Nat) (hk : 0 < k) (hok : l.all okOrder = true) (hom : m.all okReturn = true) : impl_LeftOver.f k l m days = some (leftRes l m days) := by
  unfold impl_LeftOver.f leftRes
  rw [iDays_is l m days k hk hok hom, Option.bind_some]
  by_cases h : codeM l m days = 0
  · rw [if_pos h, if_pos h, iMat_is l m days hok hom h]; rfl
  · rw [if_neg h, if_neg h]
theorem sLeft_is (k : Nat) (hk : l.length + m.length + 1700 < k) (hl : l.length ≤ 1048576) (hm : m.length ≤ 1048576) (hok : l.all okOrder = true) (hom : m.all okReturn = true) : spec_LeftOver.f k l m days = some (leftRes l m days) := by
  have hc := sCode_is l m days k (by omega) hl hm hok hom
  unfold spec_LeftOver.f leftRes
  unfold spec_l06Days.f at hc ⊢
  rw [sIn_is, Option.bind_some, Option.bind_some] at hc ⊢
  rw [hc, Option.bind_some]
  by_cases h : codeM l m days = 0
  · obtain ⟨h1, h2⟩ := codeM_zero h
    obtain ⟨a1, a2⟩ := ordersB_in h1 hok
    obtain ⟨b1, b2⟩ := returnsB_in h2 hom
    have hC := (run_is l m days a1 (fun x hx => (b2 x hx).2)).2
    have hs := run_short l m days a1 b1
    rw [if_pos h, if_pos h]
    have := sLeft0 l m days b1 (fun x hx => (b2 x hx).2) _ (sMat_is l m days hok hom h) hs (fun x hx => hC.pl x hx) m.length 0 k (by omega) (by omega)
    rw [List.take_zero] at this
    rw [show (([] : List Int)) = List.map (fun x : S50 => x.f2) [] from rfl, show (0 : Int) = ((0 : Nat) : Int) from rfl, this, subs_is hC]
    rfl
  · rw [if_neg h, if_neg h]
theorem left_short (hok : l.all okOrder = true) (hom : m.all okReturn = true) : (leftRes l m days).1.length ≤ 1600 := by
  unfold leftRes
  split
  · rename_i h
    obtain ⟨h1, h2⟩ := codeM_zero h
    obtain ⟨a1, a2⟩ := ordersB_in h1 hok
    obtain ⟨b1, b2⟩ := returnsB_in h2 hom
    have hC := (run_is l m days a1 (fun x hx => (b2 x hx).2)).2
    show (runI l m days).2.length ≤ 1600
    rw [hC.len]; omega
  · simp
end
end Go.Proofs.Ytlefddghiiigeaa.Q
