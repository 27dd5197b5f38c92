/- spec's counts are impl's counts; spec.FewestStamps answers as impl.FewestStamps. -/
import Derived.Test.YtlcnjpibfjhibaaSTab
import Derived.Test.YtlcnjpibfjhibaaCntPure
import Derived.Test.YtlcnjpibfjhibaaHFewS
import Derived.Test.YtlcnjpibfjhibaaQ3
set_option linter.unusedVariables false
set_option linter.unusedSimpArgs false
namespace Go.Proofs.Ytlcnjpibfjhibaa.Q
open Go.RowKit Go.Proofs.YtlcnjpibfjhibaaW.PrintWords Go.Proofs.Ytlcnjpibfjhibaa.Loops Go.Proofs.Ytlcnjpibfjhibaa.Pay
/-- The search for one number of stamps. -/
theorem sinner_is {T : List (List Int)} {vs prev cur out rest : List Int} {am am2 i m kk : Nat} {v left : Int} (hT : T.length = vs.length + 1) (hn : vs.length ≤ 50) (hi : i < vs.length) (hv : vs.getD i 0 = v) (hp : rd_L3 T ((i + 1 : Nat) : Int) = prev) (hc : rd_L3 T (i : Int) = cur) (hpl : prev.length = m) (hcl : cur.length = m) (hm : m ≤ 10000) (ham : am < m) (hcur : cur.getD am 0 = left) (hv1 : 1 ≤ v)
    (hkb : (kk : Int) * v ≤ am) (ham2 : (am : Int) - kk * v = am2) (h3 : 0 ≤ prev.getD am2 0) (h4 : prev.getD am2 0 + kk = left) (hpb : ∀ j, j < m → prev.getD j 0 ≤ 1000000) (hout : out.length ≤ 50)
    (h5 : ∀ j : Nat, j < kk → ¬ (0 ≤ prev.getD ((am : Int) - j * v).toNat 0 ∧ prev.getD ((am : Int) - j * v).toNat 0 + j = left))
    (hN : Ev (fun k => spec_l01Counts.l0 k T vs (am2 : Int) (out ++ [(kk : Int)]) ((i + 1 : Nat) : Int)) rest) :
    ∀ (r j : Nat), j + r = kk → Ev (fun k => spec_l01Counts.l1 k T vs (am : Int) out (i : Int) (j : Int)) rest := by
  have c1 : (0 : Int) ≤ (i : Int) := by omega
  have c2 : (i : Int) < (vs.length : Int) := by omega
  have c3 : (0 : Int) ≤ ((i + 1 : Nat) : Int) := by omega
  have c4 : ((i + 1 : Nat) : Int) < (T.length : Int) := by omega
  have c5 : (i : Int) < (T.length : Int) := by omega
  have c6 : (0 : Int) ≤ (am : Int) := by omega
  have c7 : (am : Int) < (cur.length : Int) := by omega
  have c8 : i ≤ 1000000 := by omega
  have c9 : out.length < 17592186044416 := by omega
  have mono : ∀ j : Nat, j ≤ kk → (j : Int) * v ≤ am := fun j hj => by
    have := Int.mul_le_mul_of_nonneg_right (show (j : Int) ≤ kk by omega) (show (0 : Int) ≤ v by omega)
    omega
  intro r
  induction r with
  | zero =>
    intro j hj
    obtain rfl : j = kk := by omega
    obtain ⟨m0, m1⟩ := mul_up (k := j) hv1
    have m2 : (j : Int) * v ≤ 1000000000000 := by omega
    have a0 : (0 : Int) ≤ (am2 : Int) := by omega
    have a1 : (am2 : Int) ≤ 1000000000000 := by omega
    have a2 : (am2 : Int) < (prev.length : Int) := by omega
    have a3 : am2 < m := by omega
    have hb := hpb am2 a3
    have b0 : 0 ≤ prev.getD am2 0 + (j : Int) := by omega
    have b1 : prev.getD am2 0 + (j : Int) ≤ 1000000000000 := by omega
    have d1 : ¬ (j : Int) * v > am := by omega
    have d2 : ¬ prev.getD am2 0 < 0 := by omega
    refine Ev.step (fun k => ?_) hN
    rw [spec_l01Counts.l1, if_pos c1, if_pos c2, rdn, hv, w_small m0 m2, if_neg d1, w_next c8, if_pos c3, if_pos c4, ham2, w_small a0 a1, if_pos a0, hp, if_pos a2, rdn, if_neg d2, if_pos c5, if_pos c6, hc, if_pos c7, w_small b0 b1, rdn, hcur, if_pos h4, if_pos c9]
  | succ r ih =>
    intro j hj
    have ih' := ih (j + 1) (by omega)
    obtain ⟨m0, m1⟩ := mul_up (k := j) hv1
    have hja := mono j (by omega)
    have m2 : (j : Int) * v ≤ 1000000000000 := by omega
    obtain ⟨x, hx⟩ : ∃ x : Nat, (am : Int) - j * v = x := ⟨((am : Int) - j * v).toNat, by omega⟩
    have a0 : (0 : Int) ≤ (x : Int) := by omega
    have a1 : (x : Int) ≤ 1000000000000 := by omega
    have a2 : (x : Int) < (prev.length : Int) := by omega
    have a3 : x < m := by omega
    have hb := hpb x a3
    have hf := h5 j (by omega)
    rw [hx, Int.toNat_natCast] at hf
    have d1 : ¬ (j : Int) * v > am := by omega
    have j6 : j ≤ 1000000 := by omega
    refine Ev.step (fun k => ?_) ih'
    rw [spec_l01Counts.l1, if_pos c1, if_pos c2, rdn, hv, w_small m0 m2, if_neg d1, w_next c8, if_pos c3, if_pos c4, hx, w_small a0 a1, if_pos a0, hp, if_pos a2, rdn]
    by_cases g : prev.getD x 0 < 0
    · rw [if_pos g, w_next j6]
    · have b0 : 0 ≤ prev.getD x 0 + (j : Int) := by omega
      have b1 : prev.getD x 0 + (j : Int) ≤ 1000000000000 := by omega
      have g1 : ¬ prev.getD x 0 + (j : Int) = left := fun e => hf ⟨by omega, e⟩
      rw [if_neg g, if_pos c5, if_pos c6, hc, if_pos c7, w_small b0 b1, rdn, hcur, if_neg g1, w_next j6]
abbrev plenty (vs : List Int) : List Int := List.replicate vs.length 1000
abbrev endlessL (vs : List Int) : List Int := List.replicate vs.length 1099511627776
theorem mem_plenty {vs : List Int} {h : Int} (hh : h ∈ plenty vs) : h = 1000 := List.eq_of_mem_replicate hh
theorem mem_endless {vs : List Int} {h : Int} (hh : h ∈ endlessL vs) : h = 1099511627776 := List.eq_of_mem_replicate hh
theorem same_tab {vs : List Int} {m : Nat} (hv : ∀ v ∈ vs, 1 ≤ v) (hm : m ≤ 1000) (d : Nat) (hd : d ≤ vs.length) : SameRow m (itab vs (plenty vs) m d) (tabD vs (endlessL vs) m d) :=
  itab_same m (by simp) (by simp) hv (fun h hh => by rw [mem_plenty hh]; omega) (fun h hh => by rw [mem_endless hh]; omega) d hd
theorem tab_bound {vs : List Int} {m : Nat} (hv : ∀ v ∈ vs, 1 ≤ v) (hm : m ≤ 1000) (d : Nat) (hd : d ≤ vs.length) (j : Nat) (hj : j < m) : (itab vs (plenty vs) m d).getD j 0 ≤ 1000000 := by
  have hok := tabD_ok (hs := endlessL vs) m (by simp) hv (fun h hh => by rw [mem_endless hh]; omega) d hd
  have h1 := hok.least j hj
  obtain ⟨_, h⟩ := same_tab hv hm d hd j hj
  rw [h]
  split <;> omega
theorem row_at {vs : List Int} {m : Nat} (hv : ∀ v ∈ vs, 1 ≤ v) (hm : m ≤ 1000) (d : Nat) (hd : d ≤ vs.length) (j : Nat) (hj : j < m) (left : Int) (k : Nat) :
    (0 < ((tabD vs (endlessL vs) m d).getD j z80).f0 ∧ ((tabD vs (endlessL vs) m d).getD j z80).f1 + k = left) ↔ (0 ≤ (itab vs (plenty vs) m d).getD j 0 ∧ (itab vs (plenty vs) m d).getD j 0 + k = left) := by
  obtain ⟨⟨h0, h1⟩, h⟩ := same_tab hv hm d hd j hj
  rw [h]
  split
  · constructor
    · rintro ⟨a, _⟩; omega
    · rintro ⟨a, _⟩; omega
  · constructor
    · rintro ⟨a, b⟩; exact ⟨h1, b⟩
    · rintro ⟨a, b⟩; exact ⟨by omega, b⟩
set_option maxHeartbeats 2000000 in
/-- spec's counts, by its own table. -/
theorem scounts_is {vs : List Int} (hv : ∀ v ∈ vs, 1 ≤ v ∧ v ≤ 1000000) (hn : vs.length ≤ 5) {m : Nat} (hm : m ≤ 1000) {a : Nat} (ha : a < m) (hp : 0 < ((tabD vs (endlessL vs) m vs.length).getD a z80).f0) :
    Ev (fun k => spec_l01Counts.f k (tabTo vs (plenty vs) m vs.length) vs (a : Int)) (cntD (tabD vs (endlessL vs) m) vs vs.length (a : Int) ((tabD vs (endlessL vs) m vs.length).getD a z80).f1) := by
  have hv' : ∀ v ∈ vs, 1 ≤ v := fun v h => (hv v h).1
  have hhs : ∀ h ∈ endlessL vs, 0 ≤ h := fun h hh => by rw [mem_endless hh]; omega
  have hok := tabD_ok (hs := endlessL vs) m (by simp) hv' hhs
  have key : ∀ (d : Nat), d ≤ vs.length → ∀ (am : Nat) (out : List Int), am < m → out.length + d = vs.length → 0 < ((tabD vs (endlessL vs) m d).getD am z80).f0 →
      Ev (fun k => spec_l01Counts.l0 k (tabTo vs (plenty vs) m vs.length) vs (am : Int) out ((vs.length - d : Nat) : Int)) (out ++ cntD (tabD vs (endlessL vs) m) vs d (am : Int) ((tabD vs (endlessL vs) m d).getD am z80).f1) := by
    intro d
    induction d with
    | zero =>
      intro _ am out _ _ _
      rw [cntD, List.append_nil]
      refine Ev.step (f := fun _ => some out) (fun k => ?_) (Ev.now _)
      rw [spec_l01Counts.l0, if_neg (by omega)]
    | succ d ih =>
      intro hd am out ham hout hpos
      obtain ⟨i, hii⟩ : ∃ i, vs.length - (d + 1) = i := ⟨_, rfl⟩
      have hvm : vs.getD i 0 ∈ vs := by rw [List.getD_eq_getElem?_getD, List.getElem?_eq_getElem (by omega)]; exact List.getElem_mem _
      obtain ⟨hv1, hv2⟩ := hv _ hvm
      have hrow : (tabD vs (endlessL vs) m (d + 1)).getD am z80 = cellAt (tabD vs (endlessL vs) m d) (vs.getD i 0) (am : Int) (cellK (vs.getD i 0) ((endlessL vs).getD i 0) (am : Int)) := by
        rw [tabD, rowT_get _ _ _ _ _ ham, hii]
      have hh1 : 0 ≤ (endlessL vs).getD i 0 := hhs _ (by rw [List.getD_eq_getElem?_getD, List.getElem?_eq_getElem (by simp; omega)]; exact List.getElem_mem _)
      have hcur : (itab vs (plenty vs) m (d + 1)).getD am 0 = ((tabD vs (endlessL vs) m (d + 1)).getD am z80).f1 := by
        obtain ⟨_, h⟩ := same_tab hv' hm (d + 1) hd am ham
        rw [h, if_neg (by omega)]
      rw [cntD, hii]
      obtain ⟨v, hvv⟩ : ∃ v, vs.getD i 0 = v := ⟨_, rfl⟩
      rw [hvv] at hv1 hv2 hrow ⊢
      obtain ⟨left, hleft⟩ : ∃ left, ((tabD vs (endlessL vs) m (d + 1)).getD am z80).f1 = left := ⟨_, rfl⟩
      rw [hleft] at hcur ⊢
      have hckl := cellK_le hv1 hh1 am
      have hro := hok d (by omega)
      rw [hrow] at hpos hleft
      obtain ⟨q, q1, q2, q3⟩ := cellAt_reached hro hv1 ham _ hckl.2 hpos
      rw [hleft] at q3
      have hlb := (cellAt_ok hro (wayB_pos m d) hv1 ham _ hckl.2).2.2
      rw [hleft] at hlb
      have hqk := (cellK_iff hv1 hh1 (show (0 : Int) ≤ am by omega) q).1 q1
      clear hckl q1 hrow
      have hpl : (itab vs (plenty vs) m d).length = m := itab_length _ _ _ _
      have hql : q < 0 + 2001 := by
        have := (mul_up (k := q) hv1).2
        omega
      obtain ⟨f1, f2, f3, f4, f5⟩ := findK_spec (tabD vs (endlessL vs) m d) v (am : Int) left 2001 0 q (Nat.zero_le _) hql q2 q3
      obtain ⟨kk, hkk⟩ : ∃ kk, findK (tabD vs (endlessL vs) m d) v (am : Int) left 2001 0 = kk := ⟨_, rfl⟩
      rw [hkk] at f1 f3 f4 f5 ⊢
      have hmono : ∀ j : Nat, j ≤ q → (j : Int) * v ≤ am := fun j hj => by
        have := Int.mul_le_mul_of_nonneg_right (show (j : Int) ≤ q by omega) (show (0 : Int) ≤ v by omega)
        omega
      have hkb : (kk : Int) * v ≤ am := hmono kk f1
      obtain ⟨am2, ham2⟩ : ∃ am2 : Nat, (am : Int) - kk * v = am2 := ⟨((am : Int) - kk * v).toNat, by omega⟩
      rw [ham2] at f3 f4 ⊢
      have hm2 : am2 < m := by have := (mul_up (k := kk) hv1).1; omega
      simp only [Int.toNat_natCast] at f3 f4
      have ih2 := ih (by omega) am2 (out ++ [(kk : Int)]) hm2 (by rw [List.length_append, List.length_singleton]; omega) f3
      have hl2 : ((tabD vs (endlessL vs) m d).getD am2 z80).f1 = left - kk := by omega
      rw [hl2, List.append_assoc, List.singleton_append, show vs.length - d = i + 1 by omega] at ih2
      have hg := (row_at hv' hm d (by omega) am2 hm2 left kk).1 ⟨f3, f4⟩
      have hrest : ∀ j : Nat, j < kk → ¬ (0 ≤ (itab vs (plenty vs) m d).getD ((am : Int) - j * v).toNat 0 ∧ (itab vs (plenty vs) m d).getD ((am : Int) - j * v).toNat 0 + j = left) := fun j hj h9 => by
        have h1 := hmono j (by omega)
        have h2 := (mul_up (k := j) hv1).1
        exact f5 j (Nat.zero_le _) hj ((row_at hv' hm d (by omega) _ (by omega) left j).2 h9)
      have inner := sinner_is (T := tabTo vs (plenty vs) m vs.length) (cur := itab vs (plenty vs) m (d + 1)) (out := out) (by rw [tabTo_len]) (by omega) (show i < vs.length by omega) hvv
        (by rw [rd_tabTo vs (plenty vs) m vs.length (i + 1) (by omega), show vs.length - (i + 1) = d by omega]) (by rw [rd_tabTo vs (plenty vs) m vs.length i (by omega), show vs.length - i = d + 1 by omega]) hpl (itab_length _ _ _ _) (by omega) ham hcur hv1 hkb ham2 hg.1 hg.2 (fun j hj => tab_bound hv' hm d (by omega) j hj) (by omega) hrest ih2 kk 0 (by omega)
      refine Ev.step (fun k => ?_) inner
      rw [spec_l01Counts.l0, if_pos (by omega)]
      rfl
  have h0 := key vs.length (Nat.le_refl _) a [] ha (by simp) hp
  rw [List.nil_append, Nat.sub_self] at h0
  exact Ev.congr (fun k => by unfold spec_l01Counts.f; rfl) h0
theorem l01Plenty_is (vs : List Int) (hn : vs.length ≤ 1000) : Ev (fun k => spec_l01Plenty.f k vs) (plenty vs) := by
  have key : ∀ (d i : Nat), i + d = vs.length → Ev (fun k => spec_l01Plenty.l0 k vs (List.replicate i 1000) (i : Int)) (plenty vs) := by
    intro d
    induction d with
    | zero =>
      intro i hi
      obtain rfl : i = vs.length := by omega
      refine Ev.step (f := fun _ => some (plenty vs)) (fun k => ?_) (Ev.now _)
      rw [spec_l01Plenty.l0, if_neg (by omega)]
    | succ d ih =>
      intro i hi
      have := ih (i + 1) (by omega)
      refine Ev.step (fun k => ?_) this
      rw [spec_l01Plenty.l0, if_pos (by omega), if_pos (by rw [List.length_replicate]; omega), List.replicate_succ', wrap_mid (i := (i : Int) + 1) (by omega) (by omega)]
      rfl
  exact Ev.congr (fun k => by unfold spec_l01Plenty.f; rfl) (key vs.length 0 (by omega))
theorem l01PostageB_is (n : Int) (h0 : 0 ≤ n) (h1 : n ≤ 1000) : spec_l01Postage.f n = some true := by
  unfold spec_l01Postage.f spec_l00In.f
  rw [if_pos (by omega), Option.bind_some, decide_eq_true h1]
theorem fewS_eq (vs : List Int) (a : Nat) : fewS vs a = if ((tabD vs (endlessL vs) (a + 1) vs.length).getD a z80).f0 = 0 then ([], 0, 6)
    else (cntD (tabD vs (endlessL vs) (a + 1)) vs vs.length (a : Int) ((tabD vs (endlessL vs) (a + 1) vs.length).getD a z80).f1, ((tabD vs (endlessL vs) (a + 1) vs.length).getD a z80).f1, 0) := rfl
/-- spec's answer is impl's. -/
theorem sFewest_is {vs : List Int} (h : Vals vs) (hn : vs.length ≤ 5) (a : Nat) (ha : a < 900) : Ev (fun k => spec_FewestStamps.f k vs (a : Int)) (fewS vs a) := by
  have hv : ∀ v ∈ vs, 1 ≤ v ∧ v ≤ 1000000 := fun v hv => by have := h.mem v hv; omega
  have hv' : ∀ v ∈ vs, 1 ≤ v := fun v h => (hv v h).1
  have hT := l01Table_is (vs := vs) (hs := plenty vs) (by simp) (by omega) hv (fun h hh => by rw [mem_plenty hh]; omega) (m := a) (by omega) (fun d hd j hj => tab_bound hv' (by omega) d hd j hj)
  have hl : (tabTo vs (plenty vs) (a + 1) vs.length).length = vs.length + 1 := tabTo_len _ _ _ _
  have hr0 : rd_L3 (tabTo vs (plenty vs) (a + 1) vs.length) 0 = itab vs (plenty vs) (a + 1) vs.length := rd_tabTo vs (plenty vs) (a + 1) vs.length 0 (by omega)
  have hrl : (itab vs (plenty vs) (a + 1) vs.length).length = a + 1 := itab_length _ _ _ _
  obtain ⟨⟨g0, g1⟩, hs⟩ := same_tab hv' (show a + 1 ≤ 1000 by omega) vs.length (Nat.le_refl _) a (by omega)
  unfold spec_FewestStamps.f
  rw [l01PostageB_is _ (by omega) (by omega)]
  simp only [Option.bind_some]
  refine Ev.bind (l01Asked_is h) ?_
  simp only [if_true]
  refine Ev.bind (l01Plenty_is vs (by omega)) (Ev.bind hT ?_)
  have c1 : (0 : Int) < ((tabTo vs (plenty vs) (a + 1) vs.length).length : Int) := by omega
  have c2 : (0 : Int) ≤ (a : Int) := by omega
  have c3 : (a : Int) < ((itab vs (plenty vs) (a + 1) vs.length).length : Int) := by omega
  simp only [hr0, rdn, if_pos c1, if_pos c2, if_pos c3, hs]
  rw [fewS_eq]
  by_cases hz : ((tabD vs (endlessL vs) (a + 1) vs.length).getD a z80).f0 = 0
  · simp only [if_pos hz, if_pos (show (-1 : Int) < 0 by decide)]
    exact Ev.now _
  · have hng : ¬ ((tabD vs (endlessL vs) (a + 1) vs.length).getD a z80).f1 < 0 := by omega
    simp only [if_neg hz, if_neg hng]
    exact Ev.bind (scounts_is (m := a + 1) (a := a) hv hn (by omega) (by omega) (by omega)) (Ev.now _)
end Go.Proofs.Ytlcnjpibfjhibaa.Q
