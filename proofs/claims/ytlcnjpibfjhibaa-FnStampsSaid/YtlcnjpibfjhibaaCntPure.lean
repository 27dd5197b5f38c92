/- The counts of the fewest stamps, by impl's table: over lists alone. -/
import Derived.Test.YtlcnjpibfjhibaaDraw
import Derived.Test.YtlcnjpibfjhibaaTabPure
set_option linter.unusedVariables false
set_option linter.unusedSimpArgs false
namespace Go.Proofs.Ytlcnjpibfjhibaa.Q
open Go.RowKit Go.Proofs.YtlcnjpibfjhibaaW.PrintWords Go.Proofs.Ytlcnjpibfjhibaa.Loops
/-- The first number of stamps that leaves the rest to the row behind. -/
def findK (prev : List S80) (v amount left : Int) : Nat → Nat → Nat
  | 0, k => k
  | f + 1, k => if 0 < (prev.getD (amount - k * v).toNat z80).f0 ∧ (prev.getD (amount - k * v).toNat z80).f1 + k = left then k else findK prev v amount left f (k + 1)
def cntD (tab : Nat → List S80) (vs : List Int) : Nat → Int → Int → List Int
  | 0, _, _ => []
  | d + 1, amount, left => ((findK (tab d) (vs.getD (vs.length - (d + 1)) 0) amount left 2001 0 : Nat) : Int) :: cntD tab vs d (amount - (findK (tab d) (vs.getD (vs.length - (d + 1)) 0) amount left 2001 0 : Nat) * vs.getD (vs.length - (d + 1)) 0) (left - (findK (tab d) (vs.getD (vs.length - (d + 1)) 0) amount left 2001 0 : Nat))
theorem cntD_length (tab : Nat → List S80) (vs : List Int) : ∀ d a l, (cntD tab vs d a l).length = d
  | 0, _, _ => rfl
  | d + 1, a, l => by rw [cntD, List.length_cons, cntD_length tab vs d]
/-- The least is reached by some number of stamps. -/
theorem cellAt_reached {b : Int} {m : Nat} {prev : List S80} (h : RowOk b m prev) {v : Int} (hv : 1 ≤ v) {a : Nat} (ha : a < m) : ∀ K : Nat, (K : Int) * v ≤ a + v → 0 < (cellAt prev v a K).f0 →
    ∃ k : Nat, k < K ∧ 0 < (prev.getD ((a : Int) - k * v).toNat z80).f0 ∧ (prev.getD ((a : Int) - k * v).toNat z80).f1 + k = (cellAt prev v a K).f1
  | 0, _, h0 => by simp [cellAt, z80] at h0
  | K + 1, hK, h0 => by
    have e : ((K + 1 : Nat) : Int) * v = (K : Int) * v + v := by rw [Int.natCast_add, Int.add_mul]; simp
    rw [e] at hK
    have hkv : 0 ≤ (K : Int) * v := Int.mul_nonneg (by omega) (by omega)
    have hx : ((a : Int) - K * v).toNat < m := by omega
    obtain ⟨w1, w2⟩ := h.ways _ hx
    rw [cellAt, cellStep] at h0 ⊢
    by_cases hz : (prev.getD ((a : Int) - K * v).toNat z80).f0 = 0
    · rw [if_pos hz] at h0 ⊢
      obtain ⟨k, h1, h2, h3⟩ := cellAt_reached h hv ha K (by omega) h0
      exact ⟨k, by omega, h2, h3⟩
    · rw [if_neg hz]
      simp only
      by_cases hc : (cellAt prev v a K).f0 = 0 ∨ (prev.getD ((a : Int) - K * v).toNat z80).f1 + K < (cellAt prev v a K).f1
      · rw [if_pos hc]
        exact ⟨K, by omega, by omega, rfl⟩
      · rw [if_neg hc]
        have hne : (cellAt prev v a K).f0 ≠ 0 := fun h9 => hc (.inl h9)
        have hb : 0 ≤ b := by omega
        have hge := (cellAt_ok h hb hv ha K (by omega)).1
        obtain ⟨k, h1, h2, h3⟩ := cellAt_reached h hv ha K (by omega) (by omega)
        exact ⟨k, by omega, h2, h3⟩
/-- What is found is the first one. -/
theorem findK_spec (prev : List S80) (v amount left : Int) : ∀ (f k q : Nat), k ≤ q → q < k + f → 0 < (prev.getD (amount - q * v).toNat z80).f0 → (prev.getD (amount - q * v).toNat z80).f1 + q = left →
    findK prev v amount left f k ≤ q ∧ k ≤ findK prev v amount left f k ∧ 0 < (prev.getD (amount - (findK prev v amount left f k : Nat) * v).toNat z80).f0 ∧ (prev.getD (amount - (findK prev v amount left f k : Nat) * v).toNat z80).f1 + (findK prev v amount left f k : Nat) = left ∧
      ∀ j, k ≤ j → j < findK prev v amount left f k → ¬ (0 < (prev.getD (amount - j * v).toNat z80).f0 ∧ (prev.getD (amount - j * v).toNat z80).f1 + j = left)
  | 0, k, q, h1, h2, _, _ => by omega
  | f + 1, k, q, h1, h2, h3, h4 => by
    rw [findK]
    by_cases hc : 0 < (prev.getD (amount - k * v).toNat z80).f0 ∧ (prev.getD (amount - k * v).toNat z80).f1 + k = left
    · rw [if_pos hc]
      exact ⟨h1, Nat.le_refl _, hc.1, hc.2, fun j j1 j2 => by omega⟩
    · rw [if_neg hc]
      have hne : k ≠ q := fun e => hc (by rw [e]; exact ⟨h3, h4⟩)
      obtain ⟨a1, a2, a3, a4, a5⟩ := findK_spec prev v amount left f (k + 1) q (by omega) (by omega) h3 h4
      refine ⟨a1, by omega, a3, a4, fun j j1 j2 => ?_⟩
      rcases Nat.lt_or_ge k j with hlt | hge
      · exact a5 j (by omega) j2
      · have : j = k := by omega
        rw [this]
        exact hc
theorem rd_tab (vs hs : List Int) (m j : Nat) (h : j < vs.length + 1) : rd_L5 (tabT vs hs m) (j : Int) = tabD vs hs m (vs.length - j) := by
  unfold rd_L5
  rw [Int.toNat_natCast]
  simp [tabT, List.getD_eq_getElem?_getD, h]
theorem l1_pre (T : List (List S80)) (prev : List S80) (am i j x : Nat) (out vs : List Int) (left v : Int) (hi : i + 1 < T.length) (hT : T.length ≤ 100) (hrd : rd_L5 T ((i + 1 : Nat) : Int) = prev) (hx : (am : Int) - j * v = x) (hxp : x < prev.length) (hb0 : 0 ≤ (j : Int) * v) (hb : (j : Int) * v ≤ 1000000000000) (ha : am ≤ 1000000) (k : Nat) :
    impl_purse_counts.l1 (k + 1) T (am : Int) out left (i : Int) v (j : Int) vs (vs.length : Int) (i : Int) = if (prev.getD x z80).f0 > 0 then (if wrap64 ((prev.getD x z80).f1 + j) = left then (if out.length < 17592186044416 then impl_purse_counts.l0 k T (x : Int) (out ++ [(j : Int)]) (wrap64 (left - j)) vs (vs.length : Int) (wrap64 ((i : Int) + 1)) else none) else impl_purse_counts.l1 k T (am : Int) out left (i : Int) v (wrap64 ((j : Int) + 1)) vs (vs.length : Int) (i : Int)) else impl_purse_counts.l1 k T (am : Int) out left (i : Int) v (wrap64 ((j : Int) + 1)) vs (vs.length : Int) (i : Int) := by
  have e1 : wrap64 ((i : Int) + 1) = ((i + 1 : Nat) : Int) := by rw [wrap_mid (by omega) (by omega)]; omega
  have e2 : wrap64 ((j : Int) * v) = (j : Int) * v := wrap_mid (by omega) (by omega)
  have e3 : wrap64 ((am : Int) - (j : Int) * v) = (x : Int) := by rw [hx, wrap_mid (by omega) (by omega)]
  have e5 : rd_T80 prev (x : Int) = prev.getD x z80 := by unfold rd_T80; rw [Int.toNat_natCast]
  have h1 : (0 : Int) ≤ ((i + 1 : Nat) : Int) := by omega
  have h2 : ((i + 1 : Nat) : Int) < (T.length : Int) := by omega
  have h3 : (0 : Int) ≤ (x : Int) := by omega
  have h4 : (x : Int) < (prev.length : Int) := by omega
  rw [impl_purse_counts.l1, e2, e3, e1, hrd, e5, if_pos h1, if_pos h2, if_pos h3, if_pos h4]
theorem l0_go (T : List (List S80)) (am i : Nat) (out vs : List Int) (left v : Int) (hi : i < vs.length) (hv : vs.getD i 0 = v) (k : Nat) : impl_purse_counts.l0 (k + 1) T (am : Int) out left vs (vs.length : Int) (i : Int) = impl_purse_counts.l1 k T (am : Int) out left (i : Int) v ((0 : Nat) : Int) vs (vs.length : Int) (i : Int) := by
  have e8 : rd vs (i : Int) = v := by unfold rd; rw [Int.toNat_natCast]; exact hv
  have h1 : (i : Int) < (vs.length : Int) := by omega
  have h2 : (0 : Int) ≤ (i : Int) := by omega
  rw [impl_purse_counts.l0, e8, if_pos h1, if_pos h2, if_pos h1]
  exact congrArg (fun z => impl_purse_counts.l1 k T (am : Int) out left (i : Int) v z vs (vs.length : Int) (i : Int)) rfl
theorem nat_s1 {kk j r : Nat} (h : kk - j = r + 1) : kk - (j + 1) = r := by omega
theorem nat_s2 {kk j r : Nat} (h : kk - j = r + 1) : j + 1 ≤ kk := by omega
set_option maxHeartbeats 4000000 in
/-- The search for the number of stamps of one value. -/
theorem inner_is (T : List (List S80)) (prev : List S80) (am am2 i m kk : Nat) (out vs rest : List Int) (left v : Int) {b : Int} (hT : T.length = vs.length + 1) (hn : vs.length ≤ 5) (hi : i < vs.length) (hrd : rd_L5 T ((i + 1 : Nat) : Int) = prev) (hpl : prev.length = m) (hm : m ≤ 2000) (ham : am < m) (hro : RowOk b m prev) (hv1 : 1 ≤ v) (hkb : (kk : Int) * v ≤ am) (ham2 : (am : Int) - kk * v = am2)
    (f3 : 0 < (prev.getD am2 z80).f0) (f4 : (prev.getD am2 z80).f1 + kk = left) (hl0 : 0 ≤ left) (hl1 : left ≤ am) (hout : out.length ≤ 5)
    (f5 : ∀ j : Nat, j < kk → ¬ (0 < (prev.getD ((am : Int) - j * v).toNat z80).f0 ∧ (prev.getD ((am : Int) - j * v).toNat z80).f1 + j = left))
    (ih2 : Ev (fun k => impl_purse_counts.l0 k T (am2 : Int) (out ++ [(kk : Int)]) (left - kk) vs (vs.length : Int) ((i + 1 : Nat) : Int)) rest) :
    ∀ (r j : Nat), kk - j = r → j ≤ kk → Ev (fun k => impl_purse_counts.l1 k T (am : Int) out left (i : Int) v (j : Int) vs (vs.length : Int) (i : Int)) rest := by
  have hkv0 : ∀ j : Nat, 0 ≤ (j : Int) * v := fun j => Int.mul_nonneg (by omega) (by omega)
  have hjle : ∀ j : Nat, (j : Int) ≤ (j : Int) * v := fun j => by
    have := Int.mul_le_mul_of_nonneg_left hv1 (show (0 : Int) ≤ (j : Int) by omega)
    rwa [Int.mul_one] at this
  have hm2 : am2 < m := by have := hkv0 kk; omega
  have hlz := (hro.least _ hm2).1
  have hkk2 := hjle kk
  obtain ⟨g0, hg0⟩ : ∃ g, (prev.getD am2 z80).f0 = g := ⟨_, rfl⟩
  obtain ⟨g1, hg1⟩ : ∃ g, (prev.getD am2 z80).f1 = g := ⟨_, rfl⟩
  obtain ⟨nT, hnT⟩ : ∃ n, T.length = n := ⟨_, rfl⟩
  obtain ⟨np, hnp⟩ : ∃ n, prev.length = n := ⟨_, rfl⟩
  rw [hg0] at f3
  rw [hg1] at f4 hlz
  rw [hnT] at hT
  rw [hnp] at hpl
  have t1 : i + 1 < nT := by omega
  have t2 : nT ≤ 100 := by omega
  have t3 : am ≤ 1000000 := by omega
  intro r
  induction r with
  | zero =>
    intro j hj hjk
    obtain rfl : j = kk := by omega
    have e1 : wrap64 ((i : Int) + 1) = ((i + 1 : Nat) : Int) := by rw [wrap_mid (by omega) (by omega)]; omega
    have hkv := hkv0 j
    have e4 : wrap64 (left - (j : Int)) = left - (j : Int) := wrap_mid (by omega) (by omega)
    have e6 : wrap64 (g1 + (j : Int)) = left := by rw [f4, wrap_mid (by omega) (by omega)]
    have hol : out.length < 17592186044416 := by omega
    have t4 : am2 < prev.length := by rw [hnp]; omega
    have t5 : (j : Int) * v ≤ 1000000000000 := by omega
    refine Ev.step (fun k => ?_) ih2
    rw [l1_pre T prev am i j am2 out vs left v (by rw [hnT]; exact t1) (by rw [hnT]; exact t2) hrd ham2 t4 hkv t5 t3 k, hg0, hg1, if_pos f3, if_pos e6, if_pos hol, e4, e1]
  | succ r ihr =>
    intro j hj hjk
    have s1 : kk - (j + 1) = r := nat_s1 hj
    have s2 : j + 1 ≤ kk := nat_s2 hj
    have s3 : j < kk := s2
    have hjv := hkv0 j
    have hjb : (j : Int) * v ≤ am := by
      have := Int.mul_le_mul_of_nonneg_right (show (j : Int) ≤ kk by omega) (show (0 : Int) ≤ v by omega)
      omega
    have hjj := hjle j
    obtain ⟨x, hx⟩ : ∃ x : Nat, (am : Int) - j * v = x := ⟨((am : Int) - j * v).toNat, by omega⟩
    have hf := f5 j s3
    rw [hx, Int.toNat_natCast] at hf
    have hxm : x < m := by omega
    have hlx := hro.least x hxm
    obtain ⟨p0, hp0⟩ : ∃ g, (prev.getD x z80).f0 = g := ⟨_, rfl⟩
    obtain ⟨p1, hp1⟩ : ∃ g, (prev.getD x z80).f1 = g := ⟨_, rfl⟩
    rw [hp0, hp1] at hf
    rw [hp1] at hlx
    have e6 : wrap64 (p1 + (j : Int)) = p1 + (j : Int) := wrap_mid (by omega) (by omega)
    have e7 : wrap64 ((j : Int) + 1) = ((j + 1 : Nat) : Int) := by rw [wrap_mid (by omega) (by omega)]; omega
    have t4 : x < prev.length := by rw [hnp]; omega
    have t5 : (j : Int) * v ≤ 1000000000000 := by omega
    refine Ev.step (fun k => ?_) (ihr (j + 1) s1 s2)
    rw [l1_pre T prev am i j x out vs left v (by rw [hnT]; exact t1) (by rw [hnT]; exact t2) hrd hx t4 hjv t5 t3 k, hp0, hp1, e6, e7]
    by_cases hw : p0 > 0
    · rw [if_pos hw, if_neg (fun h9 => hf ⟨hw, h9⟩)]
    · rw [if_neg hw]
set_option maxHeartbeats 2000000 in
/-- impl's counts, by its own table. -/
theorem counts_is {vs hs : List Int} (hl : vs.length = hs.length) (hv : ∀ v ∈ vs, 1 ≤ v ∧ v ≤ 1000000) (hh : ∀ h ∈ hs, 0 ≤ h) (hn : vs.length ≤ 5) {m : Nat} (hm : m ≤ 2000) {a : Nat} (ha : a < m) (hp : 0 < ((tabD vs hs m vs.length).getD a z80).f0) :
    Ev (fun k => impl_purse_counts.f k vs hs (tabT vs hs m) (a : Int)) (cntD (tabD vs hs m) vs vs.length (a : Int) ((tabD vs hs m vs.length).getD a z80).f1) := by
  have hok := tabD_ok m hl (fun v hv' => (hv v hv').1) hh
  have hT : (tabT vs hs m).length = vs.length + 1 := by simp [tabT]
  have key : ∀ (d : Nat), d ≤ vs.length → ∀ (am : Nat) (out : List Int), am < m → out.length + d = vs.length → 0 < ((tabD vs hs m d).getD am z80).f0 →
      Ev (fun k => impl_purse_counts.l0 k (tabT vs hs m) (am : Int) out ((tabD vs hs m d).getD am z80).f1 vs (vs.length : Int) ((vs.length - d : Nat) : Int)) (out ++ cntD (tabD vs hs m) vs d (am : Int) ((tabD vs hs m d).getD am z80).f1) := by
    intro d
    induction d with
    | zero =>
      intro _ am out _ _ _
      rw [cntD, List.append_nil]
      refine Ev.step (f := fun _ => some out) (fun k => ?_) (Ev.now _)
      simp only [impl_purse_counts.l0]
      rw [if_neg (by omega)]
    | succ d ih =>
      intro hd am out ham hout hpos
      have hi : vs.length - (d + 1) < vs.length := by omega
      obtain ⟨i, hii⟩ : ∃ i, vs.length - (d + 1) = i := ⟨_, rfl⟩
      have hvm : vs.getD i 0 ∈ vs := by rw [List.getD_eq_getElem?_getD, List.getElem?_eq_getElem (by omega)]; exact List.getElem_mem _
      have hhm : hs.getD i 0 ∈ hs := by rw [List.getD_eq_getElem?_getD, List.getElem?_eq_getElem (by omega)]; exact List.getElem_mem _
      obtain ⟨hv1, hv2⟩ := hv _ hvm
      have hh1 := hh _ hhm
      have hrow : (tabD vs hs m (d + 1)).getD am z80 = cellAt (tabD vs hs m d) (vs.getD i 0) (am : Int) (cellK (vs.getD i 0) (hs.getD i 0) (am : Int)) := by
        rw [tabD, rowT_get _ _ _ _ _ ham, hii]
      rw [cntD, hii]
      obtain ⟨v, hvv⟩ : ∃ v, vs.getD i 0 = v := ⟨_, rfl⟩
      rw [hvv] at hv1 hv2 hrow ⊢
      obtain ⟨left, hleft⟩ : ∃ left, ((tabD vs hs m (d + 1)).getD am z80).f1 = left := ⟨_, rfl⟩
      have hckl := cellK_le hv1 hh1 am
      have hro := hok d (by omega)
      rw [hrow] at hpos hleft
      obtain ⟨q, q1, q2, q3⟩ := cellAt_reached hro hv1 ham _ hckl.2 hpos
      rw [hleft] at q3
      rw [hrow, hleft]
      have hlb := (cellAt_ok hro (wayB_pos m d) hv1 ham _ hckl.2).2.2
      rw [hleft] at hlb
      have hpl : (tabD vs hs m d).length = m := tabD_length vs hs m d
      have hqk := (cellK_iff hv1 hh1 (show (0 : Int) ≤ am by omega) q).1 q1
      obtain ⟨prev, hprev⟩ : ∃ prev, tabD vs hs m d = prev := ⟨_, rfl⟩
      have hrd : rd_L5 (tabT vs hs m) ((i + 1 : Nat) : Int) = prev := by rw [rd_tab vs hs m (i + 1) (by omega), show vs.length - (i + 1) = d by omega, hprev]
      rw [hprev] at q2 q3 hro hpl ih ⊢
      obtain ⟨f1, f2, f3, f4, f5⟩ := findK_spec prev v (am : Int) left 2001 0 q (Nat.zero_le _) (by omega) q2 q3
      obtain ⟨kk, hkk⟩ : ∃ kk, findK prev v (am : Int) left 2001 0 = kk := ⟨_, rfl⟩
      rw [hkk] at f1 f3 f4 f5 ⊢
      have hmono : ∀ j : Nat, j ≤ q → (j : Int) * v ≤ am := fun j hj => by
        have := Int.mul_le_mul_of_nonneg_right (show (j : Int) ≤ q by omega) (show (0 : Int) ≤ v by omega)
        omega
      have hkv0 : ∀ j : Nat, 0 ≤ (j : Int) * v := fun j => Int.mul_nonneg (by omega) (by omega)
      have hkb : (kk : Int) * v ≤ am := hmono kk f1
      obtain ⟨am2, ham2⟩ : ∃ am2 : Nat, (am : Int) - kk * v = am2 := ⟨((am : Int) - kk * v).toNat, by omega⟩
      rw [ham2] at f3 f4 ⊢
      have hm2 : am2 < m := by have := hkv0 kk; omega
      simp only [Int.toNat_natCast] at f3 f4
      have ih2 := ih (by omega) am2 (out ++ [(kk : Int)]) hm2 (by rw [List.length_append, List.length_singleton]; omega) f3
      have hl2 : (prev.getD am2 z80).f1 = left - kk := by omega
      rw [hl2, List.append_assoc, List.singleton_append, show vs.length - d = i + 1 by omega] at ih2
      have inner := inner_is (tabT vs hs m) prev am am2 i m kk out vs (out ++ (kk : Int) :: cntD (tabD vs hs m) vs d (am2 : Int) (left - kk)) left v hT hn (by omega) hrd hpl hm ham hro hv1 hkb ham2 f3 f4 (by omega) (by omega) (by omega) (fun j hj => f5 j (Nat.zero_le _) hj) ih2
      exact Ev.step (l0_go (tabT vs hs m) am i out vs left v (by omega) hvv) (inner kk 0 (by omega) (Nat.zero_le _))
  have h0 := key vs.length (Nat.le_refl _) a [] ha (by simp) hp
  rw [List.nil_append, Nat.sub_self] at h0
  refine Ev.congr (fun k => ?_) h0
  have hr0 : rd_L5 (tabT vs hs m) 0 = tabD vs hs m vs.length := rd_tab vs hs m 0 (by omega)
  unfold impl_purse_counts.f
  have e5 : rd_T80 (tabD vs hs m vs.length) (a : Int) = (tabD vs hs m vs.length).getD a z80 := by unfold rd_T80; rw [Int.toNat_natCast]
  rw [hr0, e5, if_pos (by rw [hT]; omega), if_pos (by omega), if_pos (by rw [tabD_length]; omega)]
  rfl
end Go.Proofs.Ytlcnjpibfjhibaa.Q
