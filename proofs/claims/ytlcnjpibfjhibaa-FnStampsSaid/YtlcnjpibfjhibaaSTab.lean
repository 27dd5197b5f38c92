/- spec.l01Table, as printed, makes the table itab. -/
import Derived.Test.YtlcnjpibfjhibaaITab
import Derived.Test.YtlcnjpibfjhibaaLoops
import Derived.Test.YtlcnjpibfjhibaaQ2
set_option linter.unusedVariables false
set_option linter.unusedSimpArgs false
namespace Go.Proofs.Ytlcnjpibfjhibaa.Q
open Go.RowKit Go.Proofs.YtlcnjpibfjhibaaW.PrintWords Go.Proofs.Ytlcnjpibfjhibaa.Loops Go.Proofs.Ytlcnjpibfjhibaa.Pay
theorem rdn (l : List Int) (i : Nat) : rd l (i : Int) = l.getD i 0 := by simp [rd]
theorem setN (l : List Int) (i j : Nat) (x : Int) (h : i < l.length) : (l.set i x).getD j 0 = if j = i then x else l.getD j 0 := by
  simp only [List.getD_eq_getElem?_getD, List.getElem?_set]
  by_cases e : i = j
  · subst e; simp [h]
  · rw [if_neg e, if_neg (fun q => e q.symm)]
theorem listN_ext {a b : List Int} (hl : a.length = b.length) (h : ∀ j, j < a.length → a.getD j 0 = b.getD j 0) : a = b := by
  apply List.ext_getElem hl
  intro j h1 h2
  have := h j h1
  rw [List.getD_eq_getElem?_getD, List.getD_eq_getElem?_getD, List.getElem?_eq_getElem h1, List.getElem?_eq_getElem h2] at this
  simpa using this
theorem w_next {a : Nat} (h : a ≤ 1000000) : wrap64 ((a : Int) + 1) = ((a + 1 : Nat) : Int) := by rw [wrap_mid (by omega) (by omega)]; omega
theorem w_small {x : Int} (h0 : 0 ≤ x) (h1 : x ≤ 1000000000000) : wrap64 x = x := wrap_mid (by omega) (by omega)
theorem mul_up {k : Nat} {v : Int} (hv1 : 1 ≤ v) : 0 ≤ (k : Int) * v ∧ (k : Int) ≤ (k : Int) * v := by
  refine ⟨Int.mul_nonneg (by omega) (by omega), ?_⟩
  have := Int.mul_le_mul_of_nonneg_left hv1 (show (0 : Int) ≤ (k : Int) by omega)
  rwa [Int.mul_one] at this
/-- One amount: all numbers of stamps of a value. (No equation about wrap64 may stand in omega's sight beside cellK.) -/
theorem cell_is {vs hs prev row : List Int} {T : List (List Int)} {M i m a : Nat} {v h : Int} {res : List (List Int)} (hT : 0 < T.length) (hrd : rd_L3 T 0 = prev) (hvi : i < vs.length) (hhi : i < hs.length) (hv : vs.getD i 0 = v) (hh : hs.getD i 0 = h) (hv1 : 1 ≤ v) (hv2 : v ≤ 1000000) (hh0 : 0 ≤ h) (hm : m ≤ 10000) (ha : a < m) (hpl : prev.length = m) (hrl : row.length = m)
    (hpb : ∀ j, j < m → prev.getD j 0 ≤ 1000000)
    (hN : Ev (fun k => spec_l01Table.l2 k vs hs (M : Int) T (i : Int) (row.set a (icell prev v (a : Int) (cellK v h (a : Int)))) ((a + 1 : Nat) : Int)) res) :
    ∀ (d k : Nat), k + d = cellK v h (a : Int) → Ev (fun q => spec_l01Table.l3 q vs hs (M : Int) T (i : Int) (row.set a (icell prev v (a : Int) k)) (a : Int) (k : Int)) res := by
  have hi0 : (0 : Int) ≤ (i : Int) := by omega
  have hihs : (i : Int) < (hs.length : Int) := by omega
  have hivs : (i : Int) < (vs.length : Int) := by omega
  have hT0 : (0 : Int) < (T.length : Int) := by omega
  have ha0 : (0 : Int) ≤ (a : Int) := by omega
  have ham : a ≤ 1000000 := by omega
  have hck := fun k => cellK_iff (v := v) (h := h) (at_ := (a : Int)) hv1 hh0 ha0 k
  have hk1 := cellK_le hv1 hh0 a
  obtain ⟨CK, hCK⟩ : ∃ CK, cellK v h (a : Int) = CK := ⟨_, rfl⟩
  simp only [hCK] at hck hk1 hN ⊢
  clear hCK
  intro d
  induction d with
  | zero =>
    intro k hk
    obtain rfl : k = CK := hk
    have hno : ¬ ((k : Int) ≤ h ∧ (k : Int) * v ≤ a) := fun q => Nat.lt_irrefl k ((hck k).2 q)
    obtain ⟨m0, _⟩ := mul_up (k := k) hv1
    have m1 : (k : Int) * v ≤ 1000000000000 := by omega
    by_cases hkh : (k : Int) ≤ h
    · have hka : ¬ (k : Int) * v ≤ a := fun q => hno ⟨hkh, q⟩
      refine Ev.step (f := fun q => spec_l01Table.j4 q vs hs (M : Int) T (i : Int) (row.set a (icell prev v (a : Int) k)) (a : Int) (k : Int) false) (fun q => ?_) (Ev.step (fun q => ?_) hN)
      · rw [spec_l01Table.l3, if_pos hi0, if_pos hihs, rdn, rdn, hv, hh, if_pos hkh, if_pos hivs, w_small m0 m1, decide_eq_false hka]
      · rw [spec_l01Table.j4, if_neg (by decide), w_next ham]
    · refine Ev.step (f := fun q => spec_l01Table.j4 q vs hs (M : Int) T (i : Int) (row.set a (icell prev v (a : Int) k)) (a : Int) (k : Int) false) (fun q => ?_) (Ev.step (fun q => ?_) hN)
      · rw [spec_l01Table.l3, if_pos hi0, if_pos hihs, rdn, hh, if_neg hkh]
      · rw [spec_l01Table.j4, if_neg (by decide), w_next ham]
  | succ d ih =>
    intro k hk
    obtain ⟨hkh, hka⟩ := (hck k).1 (by omega)
    obtain ⟨m0, mk⟩ := mul_up (k := k) hv1
    have m1 : (k : Int) * v ≤ 1000000000000 := by omega
    have hkk : k ≤ 1000000 := by omega
    obtain ⟨x, hx⟩ : ∃ x : Nat, (a : Int) - k * v = x := ⟨((a : Int) - k * v).toNat, by omega⟩
    have hx0 : (0 : Int) ≤ (x : Int) := by omega
    have hx1 : (x : Int) ≤ 1000000000000 := by omega
    have hxm : x < m := by omega
    have hxp : (x : Int) < (prev.length : Int) := by omega
    have har0 : a < row.length := by omega
    have hpx := hpb x hxm
    have ih' := ih (k + 1) (by omega)
    clear ih hN hck hpb
    have hic : icell prev v (a : Int) (k + 1) = if 0 ≤ prev.getD x 0 ∧ (icell prev v (a : Int) k < 0 ∨ prev.getD x 0 + k < icell prev v (a : Int) k) then prev.getD x 0 + k else icell prev v (a : Int) k := by
      rw [icell, hx, Int.toNat_natCast]
    rw [hic] at ih'
    clear hic
    obtain ⟨y, hy⟩ : ∃ y, prev.getD x 0 = y := ⟨_, rfl⟩
    obtain ⟨c, hc⟩ : ∃ c, icell prev v (a : Int) k = c := ⟨_, rfl⟩
    rw [hy] at hpx
    rw [hy, hc] at ih'
    rw [hc]
    have har : (a : Int) < ((row.set a c).length : Int) := by rw [List.length_set]; omega
    have hget : (row.set a c).getD a 0 = c := by rw [setN _ _ _ _ har0, if_pos rfl]
    refine Ev.step (f := fun q => spec_l01Table.j4 q vs hs (M : Int) T (i : Int) (row.set a c) (a : Int) (k : Int) true) (fun q => ?_) (Ev.step (fun q => ?_) ih')
    · rw [spec_l01Table.l3, if_pos hi0, if_pos hihs, rdn, rdn, hv, hh, if_pos hkh, if_pos hivs, w_small m0 m1, decide_eq_true hka]
    · rw [spec_l01Table.j4, if_pos rfl, if_pos hT0, if_pos hi0, if_pos hivs, rdn, hv, w_small m0 m1, hx, w_small hx0 hx1, hrd, if_pos hx0, if_pos hxp, rdn, hy]
      by_cases g0 : y ≥ 0
      · have y1 : 0 ≤ y + (k : Int) := by omega
        have y2 : y + (k : Int) ≤ 1000000000000 := by omega
        rw [if_pos g0, if_pos ha0, if_pos har, rdn, hget, w_small y1 y2, Int.toNat_natCast, List.set_set, w_next hkk]
        by_cases g1 : c < 0
        · rw [if_pos g1, if_pos ⟨g0, .inl g1⟩]
        · rw [if_neg g1]
          by_cases g2 : y + (k : Int) < c
          · rw [if_pos g2, if_pos ⟨g0, .inr g2⟩]
          · rw [if_neg g2, if_neg (fun q => q.2.elim g1 g2)]
      · rw [if_neg g0, w_next hkk, if_neg (fun q => g0 q.1)]
/-- A row, as far as it has come. -/
def irowTo (prev : List Int) (v h : Int) (m a : Nat) : List Int := (List.range m).map fun (j : Nat) => if j < a then icell prev v (j : Int) (cellK v h (j : Int)) else 0
theorem irowTo_len (prev : List Int) (v h : Int) (m a : Nat) : (irowTo prev v h m a).length = m := by simp [irowTo]
theorem irowTo_get (prev : List Int) (v h : Int) (m a j : Nat) (hj : j < m) : (irowTo prev v h m a).getD j 0 = if j < a then icell prev v (j : Int) (cellK v h (j : Int)) else 0 := by
  simp [irowTo, List.getD_eq_getElem?_getD, hj]
theorem irowTo_set (prev : List Int) (v h : Int) (m a : Nat) (ha : a < m) : (irowTo prev v h m a).set a (icell prev v (a : Int) (cellK v h (a : Int))) = irowTo prev v h m (a + 1) := by
  refine listN_ext (by simp [irowTo_len]) (fun j hj => ?_)
  rw [List.length_set, irowTo_len] at hj
  rw [setN _ _ _ _ (by rw [irowTo_len]; exact ha), irowTo_get _ _ _ _ _ _ hj, irowTo_get _ _ _ _ _ _ hj]
  by_cases e : j = a
  · subst e; rw [if_pos rfl, if_pos (by omega)]
  · rw [if_neg e]
    by_cases l : j < a
    · rw [if_pos l, if_pos (by omega)]
    · rw [if_neg l, if_neg (by omega)]
theorem irowTo_zero (prev : List Int) (v h : Int) (m : Nat) : irowTo prev v h m 0 = List.replicate m 0 := by
  refine listN_ext (by simp [irowTo_len]) (fun j hj => ?_)
  rw [irowTo_len] at hj
  rw [irowTo_get _ _ _ _ _ _ hj, if_neg (by omega)]
  simp [List.getD_eq_getElem?_getD, hj]
theorem irowTo_all (prev : List Int) (v h : Int) (m : Nat) : irowTo prev v h m m = irow prev v h m := by
  refine listN_ext (by rw [irowTo_len, irow_length]) (fun j hj => ?_)
  rw [irowTo_len] at hj
  rw [irowTo_get _ _ _ _ _ _ hj, if_pos hj, irow_get _ _ _ _ _ hj]
/-- One value: all amounts. -/
theorem row_is {vs hs prev : List Int} {T : List (List Int)} {i m : Nat} {v h : Int} {res : List (List Int)} (hT : 0 < T.length) (hTl : T.length ≤ 100) (hrd : rd_L3 T 0 = prev) (hvi : i < vs.length) (hhi : i < hs.length) (hl8 : vs.length ≤ 100) (hv : vs.getD i 0 = v) (hh : hs.getD i 0 = h) (hv1 : 1 ≤ v) (hv2 : v ≤ 1000000) (hh0 : 0 ≤ h) (hm : m + 1 ≤ 10000) (hpl : prev.length = m + 1)
    (hpb : ∀ j, j < m + 1 → prev.getD j 0 ≤ 1000000)
    (hN : Ev (fun k => spec_l01Table.l1 k vs hs (m : Int) (irow prev v h (m + 1) :: T) ((i : Int) - 1)) res) :
    ∀ (d a : Nat), a + d = m + 1 → Ev (fun k => spec_l01Table.l2 k vs hs (m : Int) T (i : Int) (irowTo prev v h (m + 1) a) (a : Int)) res := by
  intro d
  induction d with
  | zero =>
    intro a ha
    obtain rfl : a = m + 1 := by omega
    refine Ev.step (fun k => ?_) hN
    rw [spec_l01Table.l2, if_neg (by omega), irowTo_all]
    simp only [Option.bind_some]
    rw [if_pos (by simp only [List.length_singleton]; omega), wrap_mid (i := (i : Int) - 1) (by omega) (by omega), List.singleton_append]
  | succ d ih =>
    intro a ha
    have ih' := ih (a + 1) (by omega)
    rw [← irowTo_set _ _ _ _ _ (by omega)] at ih'
    have hc := cell_is (M := m) (row := irowTo prev v h (m + 1) a) hT hrd hvi hhi hv hh hv1 hv2 hh0 hm (show a < m + 1 by omega) hpl (irowTo_len _ _ _ _ _) hpb ih' (cellK v h (a : Int)) 0 (by omega)
    refine Ev.step (fun k => ?_) hc
    rw [spec_l01Table.l2, if_pos (by omega), if_pos (by omega), if_pos (by rw [irowTo_len]; omega), Int.toNat_natCast]
    rfl
def tabTo (vs hs : List Int) (m d : Nat) : List (List Int) := (List.range (d + 1)).map fun j => itab vs hs m (d - j)
theorem tabTo_succ (vs hs : List Int) (m d : Nat) : tabTo vs hs m (d + 1) = itab vs hs m (d + 1) :: tabTo vs hs m d := by
  unfold tabTo
  rw [List.range_succ_eq_map, List.map_cons, List.map_map]
  congr 1
  refine List.map_congr_left (fun j _ => ?_)
  simp only [Function.comp, Nat.succ_eq_add_one]
  congr 1
  omega
theorem tabTo_len (vs hs : List Int) (m d : Nat) : (tabTo vs hs m d).length = d + 1 := by simp [tabTo]
theorem tabTo_get (vs hs : List Int) (m d j : Nat) (hj : j ≤ d) : (tabTo vs hs m d).getD j [] = itab vs hs m (d - j) := by
  simp [tabTo, List.getD_eq_getElem?_getD, show j < d + 1 by omega]
theorem rd_tabTo (vs hs : List Int) (m d j : Nat) (hj : j ≤ d) : rd_L3 (tabTo vs hs m d) (j : Int) = itab vs hs m (d - j) := by
  unfold rd_L3
  rw [Int.toNat_natCast, tabTo_get vs hs m d j hj]
def lastTo (m a : Nat) : List Int := (List.range m).map fun (j : Nat) => if 1 ≤ j ∧ j < a then -1 else 0
theorem lastTo_len (m a : Nat) : (lastTo m a).length = m := by simp [lastTo]
theorem lastTo_get (m a j : Nat) (hj : j < m) : (lastTo m a).getD j 0 = if 1 ≤ j ∧ j < a then -1 else 0 := by simp [lastTo, List.getD_eq_getElem?_getD, hj]
theorem lastTo_set (m a : Nat) (h1 : 1 ≤ a) (ha : a < m) : (lastTo m a).set a (-1) = lastTo m (a + 1) := by
  refine listN_ext (by simp [lastTo_len]) (fun j hj => ?_)
  rw [List.length_set, lastTo_len] at hj
  rw [setN _ _ _ _ (by rw [lastTo_len]; exact ha), lastTo_get _ _ _ hj, lastTo_get _ _ _ hj]
  by_cases e : j = a
  · subst e; rw [if_pos rfl, if_pos (by omega)]
  · rw [if_neg e]
    by_cases l : 1 ≤ j ∧ j < a
    · rw [if_pos l, if_pos (by omega)]
    · rw [if_neg l, if_neg (by omega)]
theorem lastTo_one (m : Nat) : lastTo m 1 = List.replicate m 0 := by
  refine listN_ext (by simp [lastTo_len]) (fun j hj => ?_)
  rw [lastTo_len] at hj
  rw [lastTo_get _ _ _ hj, if_neg (by omega)]
  simp [List.getD_eq_getElem?_getD, hj]
theorem lastTo_all (m : Nat) : lastTo m m = ilast m := by
  refine listN_ext (by rw [lastTo_len, ilast_length]) (fun j hj => ?_)
  rw [lastTo_len] at hj
  rw [lastTo_get _ _ _ hj]
  unfold ilast
  rw [setN _ _ _ _ (by simp; omega)]
  by_cases e : j = 0
  · subst e; rw [if_neg (by omega), if_pos rfl]
  · rw [if_pos (by omega), if_neg e]
    simp [List.getD_eq_getElem?_getD, hj]
/-- spec's table. -/
theorem l01Table_is {vs hs : List Int} (hl : vs.length = hs.length) (hl8 : vs.length ≤ 50) (hv : ∀ v ∈ vs, 1 ≤ v ∧ v ≤ 1000000) (hh : ∀ h ∈ hs, 0 ≤ h) {m : Nat} (hm : m ≤ 9000) (hpb : ∀ d, d ≤ vs.length → ∀ j, j < m + 1 → (itab vs hs (m + 1) d).getD j 0 ≤ 1000000) :
    Ev (fun k => spec_l01Table.f k vs hs (m : Int)) (tabTo vs hs (m + 1) vs.length) := by
  have e1 : wrap64 ((m : Int) + 1) = ((m + 1 : Nat) : Int) := by rw [wrap_mid (by omega) (by omega)]; omega
  have rows : ∀ (e d : Nat), d + e = vs.length → Ev (fun k => spec_l01Table.l1 k vs hs (m : Int) (tabTo vs hs (m + 1) d) ((vs.length : Int) - 1 - d)) (tabTo vs hs (m + 1) vs.length) := by
    intro e
    induction e with
    | zero =>
      intro d hd
      obtain rfl : d = vs.length := by omega
      refine Ev.step (f := fun _ => some (tabTo vs hs (m + 1) vs.length)) (fun k => ?_) (Ev.now _)
      rw [spec_l01Table.l1, if_neg (by omega)]
    | succ e ih =>
      intro d hd
      have ih' := ih (d + 1) (by omega)
      rw [tabTo_succ, itab] at ih'
      obtain ⟨i, hi⟩ : ∃ i, vs.length - (d + 1) = i := ⟨_, rfl⟩
      rw [hi] at ih'
      have hvm := hv (vs.getD i 0) (by rw [List.getD_eq_getElem?_getD, List.getElem?_eq_getElem (by omega)]; exact List.getElem_mem _)
      have hhm := hh (hs.getD i 0) (by rw [List.getD_eq_getElem?_getD, List.getElem?_eq_getElem (by omega)]; exact List.getElem_mem _)
      rw [show (vs.length : Int) - 1 - ((d + 1 : Nat) : Int) = (i : Int) - 1 by omega] at ih'
      have hr := row_is (T := tabTo vs hs (m + 1) d) (prev := itab vs hs (m + 1) d) (by rw [tabTo_len]; omega) (by rw [tabTo_len]; omega) (rd_tabTo vs hs (m + 1) d 0 (by omega)) (by omega) (by omega) (by omega) rfl rfl hvm.1 hvm.2 hhm (by omega) (itab_length _ _ _ _) (hpb d (by omega)) ih' (m + 1) 0 (by omega)
      rw [irowTo_zero] at hr
      refine Ev.step (fun k => ?_) hr
      rw [show (vs.length : Int) - 1 - (d : Int) = (i : Int) by omega, spec_l01Table.l1, if_pos (by omega), e1, if_pos (by omega), if_pos (by omega), Int.toNat_natCast]
      rfl
  have fill : ∀ (e a : Nat), a + e = m + 1 → 1 ≤ a → Ev (fun k => spec_l01Table.l0 k vs hs (m : Int) (vs.length : Int) (lastTo (m + 1) a) (a : Int)) (tabTo vs hs (m + 1) vs.length) := by
    intro e
    induction e with
    | zero =>
      intro a ha h1
      obtain rfl : a = m + 1 := by omega
      have := rows vs.length 0 (by omega)
      refine Ev.step (fun k => ?_) this
      rw [spec_l01Table.l0, if_neg (by omega), lastTo_all, wrap_mid (i := (vs.length : Int) - 1) (by omega) (by omega)]
      rw [show (vs.length : Int) - 1 - ((0 : Nat) : Int) = (vs.length : Int) - 1 by omega]
      rfl
    | succ e ih =>
      intro a ha h1
      have ih' := ih (a + 1) (by omega) (by omega)
      rw [← lastTo_set _ _ h1 (by omega)] at ih'
      refine Ev.step (fun k => ?_) ih'
      rw [spec_l01Table.l0, if_pos (by omega), if_pos (by omega), if_pos (by rw [lastTo_len]; omega), Int.toNat_natCast, wrap_mid (i := (a : Int) + 1) (by omega) (by omega)]
      rfl
  have := fill m 1 (by omega) (Nat.le_refl _)
  refine Ev.congr (fun k => ?_) this
  unfold spec_l01Table.f
  rw [e1, if_pos (by omega), if_pos (by omega), Int.toNat_natCast, lastTo_one]
  rfl
end Go.Proofs.Ytlcnjpibfjhibaa.Q
