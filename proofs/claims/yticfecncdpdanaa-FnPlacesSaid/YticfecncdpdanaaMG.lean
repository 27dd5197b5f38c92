/- The facts on places that the law FnPlaces needs, for what was drawn. -/
import Derived.Test.YticfecncdpdanaaPlaceFacts
import Derived.Test.YticfecncdpdanaaMF
import Derived.Test.YticfecncdpdanaaME
set_option linter.unusedVariables false
set_option linter.unusedSimpArgs false
namespace Go.Proofs.Yticfecncdpdanaa.Q
open Go.RowKit Go.Proofs.YticfecncdpdanaaW.PrintWords Go.Proofs.Yticfecncdpdanaa.Loops
theorem drop_at2 {α : Type} (l : List α) (z : α) (i : Nat) (h : i < l.length) : l.drop i = l.getD i z :: l.drop (i + 1) := drop_cons_of' l z i h
theorem HasN_is (l : List Int) (x : Int) (hl : l.length ≤ 1048576) : Ev (fun k => spec_HasNumber.f k l x) (l.contains x) := by
  have key : ∀ (d i : Nat), l.length - i = d → i ≤ l.length → Ev (fun k => spec_l00Has.l0 k l x (i : Int)) ((l.drop i).contains x) := by
    intro d
    induction d with
    | zero =>
      intro i hd hi
      refine Ev.step (f := fun _ => some false) (fun k => ?_) ?_
      · simp only [spec_l00Has.l0]
        rw [if_neg (by omega)]
      · rw [List.drop_of_length_le (by omega)]
        exact Ev.now _
    | succ d ih =>
      intro i hd hi
      have e2 : wrap64 ((i : Int) + 1) = ((i + 1 : Nat) : Int) := by rw [wrap_mid (by omega) (by omega)]; omega
      rw [drop_at2 l 0 i (by omega)]
      by_cases hx : l.getD i 0 = x
      · refine Ev.step (f := fun _ => some true) (fun k => ?_) ?_
        · simp only [spec_l00Has.l0]
          rw [if_pos (by omega), if_pos (by omega), if_pos (show rd l (i : Int) = x by simp only [rd, Int.toNat_natCast]; exact hx)]
        · rw [hx]
          simp only [List.contains_cons, BEq.rfl, Bool.true_or]
          exact Ev.now _
      · have hx2 : (x == l.getD i 0) = false := by simp only [beq_eq_false_iff_ne]; exact fun e => hx e.symm
        rw [List.contains_cons, hx2, Bool.false_or]
        refine Ev.step (fun k => ?_) (ih (i + 1) (by omega) (by omega))
        simp only [spec_l00Has.l0]
        rw [if_pos (by omega), if_pos (by omega), if_neg (show ¬ rd l (i : Int) = x by simp only [rd, Int.toNat_natCast]; exact hx), e2]
  unfold spec_HasNumber.f
  exact Ev.bind (Ev.congr (fun k => by unfold spec_l00Has.f; rfl) (key _ 0 rfl (Nat.zero_le _))) (Ev.now _)
theorem SameN_is (l : List Int) (hl : l.length ≤ 1048576) : Ev (fun k => spec_SameNumbers.f k l l) true := by
  have key : ∀ (d i : Nat), l.length - i = d → i ≤ l.length → Ev (fun k => spec_l00Same.l0 k l l (i : Int)) true := by
    intro d
    induction d with
    | zero =>
      intro i hd hi
      refine Ev.step (f := fun _ => some true) (fun k => ?_) (Ev.now _)
      simp only [spec_l00Same.l0]
      rw [if_neg (by omega)]
    | succ d ih =>
      intro i hd hi
      have e2 : wrap64 ((i : Int) + 1) = ((i + 1 : Nat) : Int) := by rw [wrap_mid (by omega) (by omega)]; omega
      refine Ev.step (fun k => ?_) (ih (i + 1) (by omega) (by omega))
      simp only [spec_l00Same.l0]
      rw [if_pos (by omega), if_pos (by omega), if_pos (by omega), if_pos trivial, e2]
  unfold spec_SameNumbers.f
  refine Ev.bind (Ev.congr (fun k => ?_) (key _ 0 rfl (Nat.zero_le _))) (Ev.now _)
  unfold spec_l00Same.f
  rw [if_pos rfl]
  rfl
theorem SameS_is (l : List S31) (hl : l.length ≤ 1048576) : Ev (fun k => spec_SameScans.f k l l) true := by
  have key : ∀ (d i : Nat), l.length - i = d → i ≤ l.length → Ev (fun k => spec_SameScans.l0 k l l (i : Int)) true := by
    intro d
    induction d with
    | zero =>
      intro i hd hi
      refine Ev.step (f := fun _ => some true) (fun k => ?_) (Ev.now _)
      simp only [spec_SameScans.l0]
      rw [if_neg (by omega)]
    | succ d ih =>
      intro i hd hi
      have e2 : wrap64 ((i : Int) + 1) = ((i + 1 : Nat) : Int) := by rw [wrap_mid (by omega) (by omega)]; omega
      refine Ev.step (fun k => ?_) (ih (i + 1) (by omega) (by omega))
      simp only [spec_SameScans.l0]
      rw [if_pos (by omega), if_pos (by omega), if_pos (by omega), if_neg (by simp), e2]
  refine Ev.congr (fun k => ?_) (key _ 0 rfl (Nat.zero_le _))
  unfold spec_SameScans.f
  rw [if_pos rfl]
  rfl
/-- Many that are told in the end are told from one round on. -/
theorem Ev.many {β : Type} (g : Nat → Nat → Option β) (r : Nat → β) : ∀ n, (∀ i, i < n → Ev (g i) (r i)) → ∃ K, ∀ k, K ≤ k → ∀ i, i < n → g i k = some (r i)
  | 0, _ => ⟨0, fun _ _ i h => absurd h (Nat.not_lt_zero i)⟩
  | n + 1, h => by
    obtain ⟨K1, h1⟩ := Ev.many g r n (fun i hi => h i (by omega))
    obtain ⟨K2, h2⟩ := h n (by omega)
    refine ⟨max K1 K2, fun k hk i hi => ?_⟩
    by_cases e : i = n
    · subst e; exact h2 k (by omega)
    · exact h1 k (by omega) i (by omega)
theorem sel_contains (p : Nat → Bool) (n x : Nat) (hx : x < n) : (selL p n).contains (x : Int) = p x := by
  cases h : p x with
  | true => rw [List.contains_iff_mem, selL_mem]; exact ⟨x, hx, h, rfl⟩
  | false =>
    have : ¬ ((x : Int) ∈ selL p n) := fun hm => by
      obtain ⟨k, k1, k2, k3⟩ := (selL_mem p n _).1 hm
      have : k = x := by omega
      subst this
      rw [h] at k2
      cases k2
    cases hc : (selL p n).contains (x : Int) with
    | false => rfl
    | true => exact absurd (List.contains_iff_mem.1 hc) this
theorem sel_length (p : Nat → Bool) (n : Nat) : (selL p n).length ≤ n := by
  unfold selL
  rw [List.length_map]
  exact Nat.le_trans (List.length_filter_le _ _) (by rw [List.length_range]; exact Nat.le_refl _)
theorem hours_length (p : Nat → Bool) : ∀ n h, (hoursFrom p n h).length ≤ n
  | 0, h => by rw [hoursFrom]; simp
  | n + 1, h => by
    have := hours_length p n (h + 1)
    rw [hoursFrom]
    split
    · rw [List.length_cons]; omega
    · omega
theorem scanIn_of {s a0 a1 : Int} (h0 : 0 ≤ a0) (h1 : a0 < s) (h2 : 0 ≤ a1) (h3 : a1 ≤ 300) : scanIn s ⟨a0, a1⟩ = true := by
  unfold scanIn inB
  simp only [Bool.and_eq_true, decide_eq_true_eq]
  omega
theorem okScan_of {s a0 a1 : Int} (hs : s ≤ 8) (h0 : 0 ≤ a0) (h1 : a0 < s) (h2 : 0 ≤ a1) (h3 : a1 ≤ 300) : okScan ⟨a0, a1⟩ = true := by
  unfold okScan
  simp only [Bool.and_eq_true, decide_eq_true_eq]
  omega
/-- The places' facts. -/
theorem placeF {s t : Int} {ls : List S44} (hD : NetD s t ls) {a0 a1 v : Int} (g0 : 0 ≤ a0) (g1 : a0 < s) (g2 : 0 ≤ a1) (g3 : a1 < 12) (v0 : 0 ≤ v) (v1 : v < 12) :
    ∃ P L K0, ∀ K, K0 ≤ K → PlaceF K s t ls a0 a1 v P L ∧ ∃ he, impl_CanGo.f s t ls a0 a1 a0 (a1 + v) = some (he, 0) ∧ ((a1 + v ≤ a1 + t ∨ he = true) → spec_HasNumber.f K P a0 = some true) := by
  obtain ⟨hnet, hok⟩ := hD.ok
  have hs2 := hD.s2
  have hs5 := hD.s5
  have ht0 := hD.t0
  have ht3 := hD.t3
  obtain ⟨b0, rfl⟩ := Int.eq_ofNat_of_zero_le g0
  obtain ⟨b1, rfl⟩ := Int.eq_ofNat_of_zero_le g2
  have hsc : okScan ⟨(b0 : Int), (b1 : Int)⟩ = true := okScan_of (s := s) (by omega) (by omega) g1 (by omega) (by omega)
  have hin : scanIn s ⟨(b0 : Int), (b1 : Int)⟩ = true := scanIn_of (by omega) g1 (by omega) (by omega)
  obtain ⟨sn, rfl⟩ := Int.eq_ofNat_of_zero_le (show 0 ≤ s by omega)
  obtain ⟨vn, rfl⟩ := Int.eq_ofNat_of_zero_le v0
  have hcode : codeB (netB (sn : Int) t ls) (scanIn (sn : Int) ⟨(b0 : Int), (b1 : Int)⟩ && inB ((b1 : Int) + (vn : Int)) 0 300) = 0 := by
    rw [hnet, hin, inB_true.2 ⟨by omega, by omega⟩]
    rfl
  have hW : whereRes (sn : Int) t ls ⟨(b0 : Int), (b1 : Int)⟩ ((b1 : Int) + (vn : Int)) = (selL (statB t ls b0 b1 ((b1 : Int) + (vn : Int))) sn, selL (laneB t ls b0 b1 ((b1 : Int) + (vn : Int))) ls.length, 0) := by
    unfold whereRes
    rw [if_pos hcode]
    simp only [Int.toNat_natCast]
  have hp := sel_length (statB t ls b0 b1 ((b1 : Int) + (vn : Int))) sn
  have hl := sel_length (laneB t ls b0 b1 ((b1 : Int) + (vn : Int))) ls.length
  have hlen := hD.len
  obtain ⟨P, hP⟩ : ∃ P, selL (statB t ls b0 b1 ((b1 : Int) + (vn : Int))) sn = P := ⟨_, rfl⟩
  obtain ⟨L, hL⟩ : ∃ L, selL (laneB t ls b0 b1 ((b1 : Int) + (vn : Int))) ls.length = L := ⟨_, rfl⟩
  rw [hP] at hp hW
  rw [hL] at hl hW
  have hPc : ∀ x, x < sn → P.contains (x : Int) = statB t ls b0 b1 ((b1 : Int) + (vn : Int)) x := fun x hx => by rw [← hP]; exact sel_contains _ _ _ hx
  obtain ⟨K1, e1⟩ := SameN_is P (by omega)
  obtain ⟨K2, e2⟩ := SameN_is L (by omega)
  obtain ⟨K3, e3⟩ := Ev.many (fun x k => spec_HasNumber.f k P (x : Int)) (fun x => P.contains (x : Int)) sn (fun x _ => HasN_is P (x : Int) (by omega))
  refine ⟨P, L, max K1 (max K2 K3), fun K hK => ⟨⟨?_, ?_, e1 K (by omega), e2 K (by omega), fun x hx => ?_, by omega, fun y hy => ?_⟩, arrB t ls b0 b1 b0 (b1 + vn), ?_, fun h => ?_⟩⟩
  · unfold impl_WhereAt.f
    rw [if_pos ⟨hok, hsc⟩, hW]
  · unfold spec_WhereAt.f
    rw [if_pos ⟨hok, hsc⟩, hW]
  · refine ⟨hoursFrom (fun h => arrB t ls b0 b1 x h) 301 0, ?_, fun h hh => ?_, hours_length _ _ _, ?_⟩
    · unfold spec_ArrivalsAt.f arrRes coded
      rw [if_pos ⟨hok, hsc⟩, hnet, hin, inB_true.2 (show 0 ≤ (x : Int) ∧ (x : Int) ≤ (sn : Int) - 1 by omega)]
      simp only [Int.toNat_natCast]
      rfl
    · obtain ⟨k, k1, k2, _, rfl⟩ := (hours_mem _ _ _ _).1 hh
      omega
    · rw [e3 K (by omega) x (by omega), hPc x (by omega)]
      congr 1
      rw [Bool.eq_iff_iff, place_iff t ls b0 b1 ((b1 : Int) + (vn : Int)) x (by omega) (by omega)]
      unfold canB
      simp only [Bool.or_eq_true, Bool.and_eq_true, decide_eq_true_eq, List.any_eq_true, Int.natCast_inj]
  · rw [← hL] at hy
    obtain ⟨k, k1, k2, rfl⟩ := (selL_mem _ _ _).1 hy
    have := lane_most _ _ _ _ _ _ k2
    rw [Int.toNat_natCast]
    omega
  · unfold impl_CanGo.f canGoRes coded
    have e : (b1 : Int) + (vn : Int) = ((b1 + vn : Nat) : Int) := by omega
    have h2 : okScan ⟨(b0 : Int), (b1 : Int) + (vn : Int)⟩ = true := okScan_of (s := (sn : Int)) (by omega) (by omega) g1 (by omega) (by omega)
    have h3 : scansIn (sn : Int) [⟨(b0 : Int), (b1 : Int)⟩, ⟨(b0 : Int), (b1 : Int) + (vn : Int)⟩] = true := by
      unfold scansIn allIn inB
      simp only [List.map_cons, List.map_nil, List.all_cons, List.all_nil, Bool.and_eq_true, decide_eq_true_eq, and_true]
      omega
    rw [if_pos ⟨hok, hsc, h2⟩, hnet, h3, e]
    simp only [Int.toNat_natCast]
    rfl
  · rw [e3 K (by omega) b0 (by omega), hPc b0 (by omega)]
    congr 1
    rcases h with h | h
    · rw [place_iff t ls b0 b1 ((b1 : Int) + (vn : Int)) b0 (by omega) (by omega)]
      exact .inl ⟨rfl, h⟩
    · have := place_here t ls b0 b1 (b1 + vn) ht0 (by omega) h
      rw [show (b1 : Int) + (vn : Int) = ((b1 + vn : Nat) : Int) by omega]
      exact this
end Go.Proofs.Yticfecncdpdanaa.Q
/- The facts on scans that the law FnPlaces needs, for what was drawn. -/
set_option linter.unusedVariables false
set_option linter.unusedSimpArgs false
namespace Go.Proofs.Yticfecncdpdanaa.Q
open Go.RowKit Go.Proofs.YticfecncdpdanaaW.PrintWords Go.Proofs.Yticfecncdpdanaa.Loops Go.Proofs.Yticfecncdpdanaa.Most
/-- Scans of a net that was drawn: all that the functions ask. -/
theorem scans_in {s : Int} (hs5 : s ≤ 5) {ss : List S31} (h : ∀ x ∈ ss, ScanD s x) : scansIn s ss = true ∧ ss.all okScan = true := by
  constructor
  · rw [scansIn_eq, List.all_eq_true]
    intro x hx
    have h0 := (h x hx).f0
    have h1 := (h x hx).f1
    exact scanIn_of h0.1 h0.2 h1.1 (by omega)
  · rw [List.all_eq_true]
    intro x hx
    have h0 := (h x hx).f0
    have h1 := (h x hx).f1
    exact okScan_of (s := s) (by omega) h0.1 h0.2 h1.1 (by omega)
theorem code_of {s t : Int} {ls : List S44} (hD : NetD s t ls) {ss : List S31} (h : ∀ x ∈ ss, ScanD s x) (hl : ss.length ≤ 4) : scansCodeB s t ls ss = 0 ∧ (okNet s t ls = true ∧ ss.length ≤ 1048576 ∧ ss.all okScan = true) := by
  obtain ⟨hnet, hok⟩ := hD.ok
  obtain ⟨h1, h2⟩ := scans_in hD.s5 h
  refine ⟨?_, hok, by omega, h2⟩
  unfold scansCodeB
  rw [if_pos hnet, if_pos h1, if_pos (by omega)]
theorem false_mem (t : Int) (l : List S44) (ss : List S31) : ∀ n i : Nat, i < n → ((i : Int) ∈ falseL t l ss n ↔ falseB t l ss i = true)
  | 0, i, h => absurd h (Nat.not_lt_zero i)
  | n + 1, i, h => by
    have hb : ∀ m, ∀ x ∈ falseL t l ss m, x < (m : Int) := by
      intro m
      induction m with
      | zero => intro x hx; cases hx
      | succ m ih =>
        intro x hx
        rw [falseL] at hx
        split at hx
        · rcases List.mem_append.1 hx with hx | hx
          · have := ih x hx; omega
          · rw [List.mem_singleton.1 hx]; omega
        · have := ih x hx; omega
    by_cases e : i = n
    · subst e
      rw [falseL]
      have hno : ¬ ((i : Int) ∈ falseL t l ss i) := fun hm => by have := hb i _ hm; omega
      split
      · rename_i hf
        rw [List.mem_append, List.mem_singleton]
        exact ⟨fun _ => hf, fun _ => .inr rfl⟩
      · rename_i hf
        exact ⟨fun hm => absurd hm hno, fun hm => absurd hm hf⟩
    · have ih := false_mem t l ss n i (by omega)
      rw [falseL]
      split
      · rw [List.mem_append, List.mem_singleton, ih]
        constructor
        · rintro (h1 | h1)
          · exact h1
          · omega
        · exact .inl
      · exact ih
theorem false_has (t : Int) (l : List S44) (ss : List S31) (n i : Nat) (h : i < n) : (falseL t l ss n).contains (i : Int) = falseB t l ss i := by
  rw [Bool.eq_iff_iff, List.contains_iff_mem]
  exact false_mem t l ss n i h
theorem false_some (t : Int) (l : List S44) (ss : List S31) : ∀ n, 0 < (falseL t l ss n).length → ∃ i, i < n ∧ falseB t l ss i = true
  | 0, h => by simp [falseL] at h
  | n + 1, h => by
    rw [falseL] at h
    split at h
    · rename_i hf; exact ⟨n, by omega, hf⟩
    · obtain ⟨i, h1, h2⟩ := false_some t l ss n h
      exact ⟨i, by omega, h2⟩
/-- The scans' facts. -/
theorem scanF {s t : Int} {ls : List S44} (hD : NetD s t ls) {y0 y1 : List Int} {a1 v : Int} (g2 : 0 ≤ a1) (g3 : a1 < 12) (v0 : 0 ≤ v) (v1 : v < 12)
    {X : List S31} {KX : Nat} (hX : ∀ k, KX ≤ k → spec_P6Scans.f k y0 s t ls = some X) (hX4 : X.length ≤ 4) (hXD : ∀ x ∈ X, ScanD s x) {q : Int} (hq : spec_P6Pick.f y1 s = some q) (q0 : 0 ≤ q) (q1 : q < s) :
    ∃ D F M C fine bi bc lc late K0, ∀ K, K0 ≤ K → ScanF K s t ls y0 y1 a1 v X D F M C fine bi bc q lc late := by
  have hs5 := hD.s5
  have hs2 := hD.s2
  obtain ⟨D, hDD⟩ : ∃ D, insAll X X.length = D := ⟨_, rfl⟩
  have hdl : D.length = X.length := by rw [← hDD]; exact insAll_length X _
  have hDm : ∀ x ∈ D, ScanD s x := fun x hx => hXD x (insAll_mem X X.length (Nat.le_refl _) x (by rw [hDD]; exact hx))
  obtain ⟨cX, okX⟩ := code_of hD hXD hX4
  obtain ⟨cD, okD⟩ := code_of hD hDm (by omega)
  obtain ⟨c, hM, MF⟩ := most_facts t ls D
  have hCm : ∀ x ∈ c.map (fun k => D.getD k z31), ScanD s x := by
    intro x hx
    obtain ⟨k, hk, rfl⟩ := List.mem_map.1 hx
    have hk2 := MF.low k hk
    rw [List.getD_eq_getElem?_getD, List.getElem?_eq_getElem hk2]
    exact hDm _ (List.getElem_mem _)
  have hcl := MF.len
  obtain ⟨C, hC⟩ : ∃ C, c.map (fun k => D.getD k z31) = C := ⟨_, rfl⟩
  rw [hC] at hCm
  have hCl : C.length = c.length := by rw [← hC, List.length_map]
  obtain ⟨cC, okC⟩ := code_of hD hCm (by omega)
  have hright : badFrom t ls C 0 < 0 := by rw [← hC]; exact MF.right
  have hFl := falseL_length t ls D D.length
  obtain ⟨K1, e1⟩ := SameS_is D (by omega)
  obtain ⟨K2, e2⟩ := SameN_is (falseL t ls D D.length) (by omega)
  obtain ⟨K3, e3⟩ := SameN_is (castN c) (by unfold castN; rw [List.length_map]; omega)
  obtain ⟨K4, e4⟩ := Ev.many (fun i k => spec_HasNumber.f k (falseL t ls D D.length) (i : Int)) (fun i => (falseL t ls D D.length).contains (i : Int)) D.length (fun i _ => HasN_is _ (i : Int) (by omega))
  have hMl : (castN c).length = c.length := by unfold castN; rw [List.length_map]
  have hMget : ∀ i, i < c.length → (castN c).getD i 0 = ((c.getD i 0 : Nat) : Int) := by
    intro i hi
    unfold castN
    rw [List.getD_eq_getElem?_getD, List.getElem?_map, List.getElem?_eq_getElem hi, List.getD_eq_getElem?_getD, List.getElem?_eq_getElem hi]
    rfl
  have hCM : C = (castN c).map fun k => D.getD k.toNat z31 := by
    rw [← hC]
    unfold castN
    rw [List.map_map]
    apply List.map_congr_left
    intro k _
    simp only [Function.comp_apply, Int.toNat_natCast]
  obtain ⟨late, lc, hlate⟩ : ∃ late lc, lateRes s t ls C q (a1 + v) = (late, lc) := ⟨_, _, rfl⟩
  have hlcode : lateCode s t ls C q (a1 + v) = 0 := by
    obtain ⟨hnet, _⟩ := hD.ok
    unfold lateCode
    rw [if_pos hnet, (scans_in hs5 hCm).1, inB_true.2 (show 0 ≤ q ∧ q ≤ s - 1 by omega), inB_true.2 (show 0 ≤ a1 + v ∧ a1 + v ≤ 300 by omega)]
    rw [if_pos (show (true && true && true) = true from rfl), if_pos (by omega)]
  refine ⟨D, falseL t ls D D.length, castN c, C, decide (badFrom t ls D 0 < 0), (firstRes s t ls D).1, (firstRes s t ls D).2, lc, late, max KX (max K1 (max K2 (max K3 K4))), fun K hK => ?_⟩
  have hfull : (decide (badFrom t ls D 0 < 0) = true) ↔ (castN c).length = D.length := by rw [decide_eq_true_eq, hMl]; exact MF.full
  exact {
    x := hX K (by omega)
    xl := hX4
    s1 := by unfold impl_SortScans.f; rw [if_pos okX]; unfold sortRes coded; rw [if_pos cX, sorted_is, hDD]
    s2 := by unfold spec_SortScans.f; rw [if_pos okX]; unfold sSortRes coded; rw [if_pos cX, hDD]
    dl := hdl
    fi := by unfold impl_CheckScans.f; rw [if_pos okD]; unfold checkRes coded; rw [if_pos cD]
    b1 := by unfold impl_FirstBadScan.f; rw [if_pos okD]
    b2 := by unfold spec_FirstBadScan.f; rw [if_pos okD]
    bf := by
      unfold firstRes
      rw [if_pos cD]
      by_cases h : badFrom t ls D 0 < 0
      · rw [if_pos h, decide_eq_true h]; exact .inl ⟨rfl, rfl⟩
      · rw [if_neg h, decide_eq_false h]; exact .inr ⟨rfl, rfl⟩
    f1 := by unfold impl_FalseScans.f; rw [if_pos okD]; unfold falseRes coded; rw [if_pos cD]
    f2 := by unfold spec_FalseScans.f; rw [if_pos okD]; unfold falseRes coded; rw [if_pos cD]
    m1 := by unfold impl_MostScans.f; rw [if_pos okD]; unfold mostRes coded; rw [if_pos cD, hM]
    m2 := by unfold spec_MostScans.f; rw [if_pos okD]; unfold mostRes coded; rw [if_pos cD, hM]
    ss := e1 K (by omega)
    sf := e2 K (by omega)
    sm := e3 K (by omega)
    fm := hfull
    less := fun h => by
      obtain ⟨i, h1, h2⟩ := false_some _ _ _ _ h
      have := MF.less i h1 h2
      rw [hMl]
      omega
    pos := fun h => by rw [hMl]; exact MF.some_ h
    fl := by omega
    ml := by rw [hMl]; exact hcl
    low := fun i hi => by
      rw [hMl] at hi
      refine ⟨c.getD i 0, hMget i hi, MF.low _ ?_⟩
      rw [List.getD_eq_getElem?_getD, List.getElem?_eq_getElem hi]
      exact List.getElem_mem _
    c := hCM
    ok := by unfold impl_CheckScans.f; rw [if_pos okC]; unfold checkRes coded; rw [if_pos cC, decide_eq_true hright]
    each := fun i hi => by
      have hEm : ∀ x ∈ D.take i ++ D.drop (i + 1), ScanD s x := fun x hx => by
        rcases List.mem_append.1 hx with hx | hx
        · exact hDm x (List.mem_of_mem_take hx)
        · exact hDm x (List.mem_of_mem_drop hx)
      obtain ⟨cE, okE⟩ := code_of hD hEm (by rw [List.length_append, List.length_take, List.length_drop]; omega)
      refine ⟨falseB t ls D i, ?_, ?_⟩
      · unfold impl_CheckScans.f
        rw [if_pos okE]
        unfold checkRes coded
        rw [if_pos cE]
        unfold falseB
        rw [List.eraseIdx_eq_take_drop_succ]
      · rw [e4 K (by omega) i hi, false_has t ls D D.length i hi]
    ris := fun i hi => by
      have := insAll_risen X X.length
      rw [hDD] at this
      exact risen_at this i hi
    pk := hq
    q0 := q0
    q1 := q1
    l1 := by unfold impl_IsLate.f; rw [if_pos okC, hlate]
    l2 := by unfold spec_IsLate.f; rw [if_pos okC, hlate]
    lc := by
      unfold lateRes at hlate
      rw [if_pos hlcode] at hlate
      cases hg : C.getLast? with
      | none =>
        have : C = [] := List.getLast?_eq_none_iff.1 hg
        rw [hg] at hlate
        exact .inr ⟨(Prod.mk.inj hlate).2.symm, by rw [this]; rfl⟩
      | some b =>
        rw [hg] at hlate
        have hp : 0 < C.length := by
          cases C with
          | nil => cases hg
          | cons x r => simp
        simp only at hlate
        rw [if_neg (by omega)] at hlate
        split at hlate
        · exact .inl ⟨(Prod.mk.inj hlate).2.symm, hp⟩
        · exact .inl ⟨(Prod.mk.inj hlate).2.symm, hp⟩
    soon := fun hp => by
      obtain ⟨b, hb⟩ : ∃ b, C.getLast? = some b := by
        cases hg : C.getLast? with
        | none => have : C = [] := List.getLast?_eq_none_iff.1 hg; rw [this] at hp; simp at hp
        | some b => exact ⟨b, rfl⟩
      have hbC : C.getD (C.length - 1) z31 = b := by
        rw [List.getLast?_eq_getElem?] at hb
        rw [List.getD_eq_getElem?_getD, hb]
        rfl
      have hbm : b ∈ C := List.mem_of_getLast? hb
      have hb0 := (hCm b hbm).f0
      have hb1 := (hCm b hbm).f1
      rw [hbC]
      obtain ⟨hnet, hok⟩ := hD.ok
      refine ⟨(List.range s.toNat).map (earl t ls b.f0.toNat b.f1.toNat), ?_, ?_, fun hl => ?_⟩
      · unfold spec_EarliestAt.f earlRes coded
        have h1 : okScan ⟨b.f0, b.f1⟩ = true := okScan_of (s := s) (by omega) hb0.1 hb0.2 hb1.1 (by omega)
        have h2 : scanIn s ⟨b.f0, b.f1⟩ = true := scanIn_of hb0.1 hb0.2 hb1.1 (by omega)
        rw [if_pos ⟨hok, h1⟩, hnet, h2]
        rfl
      · rw [List.length_map, List.length_range]
        omega
      · obtain ⟨qn, rfl⟩ := Int.eq_ofNat_of_zero_le q0
        obtain ⟨pn, hpn⟩ := Int.eq_ofNat_of_zero_le (show 0 ≤ a1 + v by omega)
        have hE : ((List.range s.toNat).map (earl t ls b.f0.toNat b.f1.toNat)).getD (qn : Int).toNat 0 = earl t ls b.f0.toNat b.f1.toNat qn := by
          rw [Int.toNat_natCast, List.getD_eq_getElem?_getD, List.getElem?_map, List.getElem?_range (by omega)]
          rfl
        rw [hE, hpn]
        unfold lateRes at hlate
        rw [if_pos hlcode, hb] at hlate
        simp only at hlate
        rw [if_neg (by omega), hpn] at hlate
        cases hany : C.any (lateAt (qn : Int) (pn : Int)) with
        | true =>
          rw [hany, if_pos rfl] at hlate
          have := (Prod.mk.inj hlate).1
          rw [hl] at this
          cases this
        | false =>
          rw [hany, if_neg (by simp)] at hlate
          have h3 := (Prod.mk.inj hlate).1
          rw [hl] at h3
          refine late_soon t ls C b qn pn hb hb0.1 hb1.1 (by omega) hany ?_
          rw [Bool.not_eq_true'] at h3
          simpa using h3
  }
end Go.Proofs.Yticfecncdpdanaa.Q
