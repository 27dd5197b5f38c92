/- Swapped parcels over lists alone: what sorting says of two lists; the rings of both sides are the same. -/
import Derived.Test.YtgjpnamckkedfaaHSwapped
import Derived.Test.YtgjpnamckkedfaaRings
set_option linter.unusedVariables false
set_option linter.unusedSimpArgs false
namespace Go.Proofs.Ytgjpnamckkedfaa.Q
open Go.RowKit
theorem le_trans' : ∀ a b c : Int, decide (a ≤ b) = true → decide (b ≤ c) = true → decide (a ≤ c) = true := by
  intro a b c h1 h2
  simp only [decide_eq_true_eq] at *
  omega
theorem le_total' : ∀ a b : Int, (decide (a ≤ b) || decide (b ≤ a)) = true := by
  intro a b
  simp only [Bool.or_eq_true, decide_eq_true_eq]
  omega
theorem sortL_sorted (l : List Int) : (sortL l).Pairwise (fun a b => a ≤ b) := by
  have := List.pairwise_mergeSort le_trans' le_total' l
  exact this.imp fun h => by simpa using h
theorem sortL_perm (l : List Int) : (sortL l).Perm l := List.mergeSort_perm l _
theorem sortL_eq {l m : List Int} : sortL m = sortL l ↔ m.Perm l := by
  constructor
  · intro h
    exact ((sortL_perm m).symm.trans (by rw [h])).trans (sortL_perm l)
  · intro h
    refine List.Perm.eq_of_pairwise (le := fun a b => a ≤ b) (fun a b _ _ h1 h2 => by omega) (sortL_sorted m) (sortL_sorted l) (((sortL_perm m).trans h).trans (sortL_perm l).symm)
theorem risB_iff : ∀ l : List Int, risB l = true ↔ l.Pairwise (fun a b => a < b)
  | [] => by simp [risB]
  | [x] => by simp [risB]
  | x :: y :: r => by
    rw [risB, Bool.and_eq_true, risB_iff (y :: r), decide_eq_true_eq]
    constructor
    · intro h
      refine List.pairwise_cons.2 ⟨fun z hz => ?_, h.2⟩
      rcases List.mem_cons.1 hz with rfl | hz
      · exact h.1
      · have := (List.pairwise_cons.1 h.2).1 z hz
        omega
    · intro h
      have h2 := List.pairwise_cons.1 h
      exact ⟨h2.1 y (by simp), h2.2⟩
theorem ris_nodup (l : List Int) : risB (sortL l) = true ↔ l.Nodup := by
  rw [risB_iff, ← (sortL_perm l).nodup_iff, List.nodup_iff_pairwise_ne]
  constructor
  · intro h
    exact h.imp fun h => by omega
  · intro h
    exact ((sortL_sorted l).and h).imp fun h => by omega
theorem perm_of_sub : ∀ (m l : List Int), m.Nodup → (∀ x ∈ m, x ∈ l) → l.length ≤ m.length → m.Perm l
  | [], l, _, _, h => by
    obtain rfl := List.eq_nil_of_length_eq_zero (show l.length = 0 by simpa using h)
    exact List.Perm.nil
  | x :: m, l, hn, hs, h => by
    obtain ⟨h1, h2⟩ := List.nodup_cons.1 hn
    have hx := hs x (by simp)
    have := perm_of_sub m (l.erase x) h2 (fun y hy => (List.mem_erase_of_ne (fun e => h1 (by rw [← e]; exact hy))).2 (hs y (by simp [hy]))) (by
      rw [List.length_erase_of_mem hx]
      simp at h
      omega)
    exact (List.Perm.cons x this).trans (List.perm_cons_erase hx).symm
/-- What spec asks of the lists at index i. -/
def swapAt (l m : List Int) (i : Nat) : Bool := inB (l.getD i 0) 0 100 && (!(l.take i).contains (l.getD i 0) && (!(m.take i).contains (m.getD i 0) && l.contains (m.getD i 0)))
theorem nodup_take (l : List Int) : l.Nodup ↔ ∀ i, i < l.length → l.getD i 0 ∉ l.take i := by
  rw [List.nodup_iff_pairwise_ne, List.pairwise_iff_getElem]
  constructor
  · intro h i hi hm
    obtain ⟨j, hj, he⟩ := List.getElem_of_mem hm
    have hj2 : j < i := by simp at hj; omega
    rw [List.getElem_take, List.getD_eq_getElem?_getD, List.getElem?_eq_getElem hi] at he
    exact h j i (by omega) hi hj2 he
  · intro h i j hi hj hij he
    refine h j hj ?_
    rw [List.getD_eq_getElem?_getD, List.getElem?_eq_getElem hj, Option.getD_some, ← he]
    have : i < (l.take j).length := by rw [List.length_take]; omega
    rw [show l[i] = (l.take j)[i] by rw [List.getElem_take]]
    exact List.getElem_mem this
theorem areSw_iff (l m : List Int) : areSwB l m = true ↔ l.length ≤ 9 ∧ (∀ x ∈ l, inB x 0 100 = true) ∧ l.Nodup ∧ m.Perm l := by
  unfold areSwB allIn
  simp only [Bool.and_eq_true, decide_eq_true_eq, List.all_eq_true, ris_nodup, sortL_eq]
theorem swap_all (l m : List Int) (hlen : l.length = m.length) (h9 : l.length ≤ 9) : areSwB l m = true ↔ ∀ i, i < l.length → swapAt l m i = true := by
  rw [areSw_iff]
  constructor
  · rintro ⟨_, h1, h2, h3⟩ i hi
    have hm : m.Nodup := h3.nodup_iff.2 h2
    have a1 := (nodup_take l).1 h2 i hi
    have a2 := (nodup_take m).1 hm i (by omega)
    have b1 : l.getD i 0 ∈ l := by rw [List.getD_eq_getElem?_getD, List.getElem?_eq_getElem hi]; exact List.getElem_mem hi
    have b2 : m.getD i 0 ∈ m := by rw [List.getD_eq_getElem?_getD, List.getElem?_eq_getElem (show i < m.length by omega)]; exact List.getElem_mem _
    unfold swapAt
    simp only [Bool.and_eq_true, Bool.not_eq_true', List.contains_eq_mem, decide_eq_false_iff_not, decide_eq_true_eq]
    exact ⟨h1 _ b1, a1, a2, h3.mem_iff.1 b2⟩
  · intro h
    have H : ∀ i, i < l.length → inB (l.getD i 0) 0 100 = true ∧ l.getD i 0 ∉ l.take i ∧ m.getD i 0 ∉ m.take i ∧ m.getD i 0 ∈ l := fun i hi => by
      have := h i hi
      unfold swapAt at this
      simpa only [Bool.and_eq_true, Bool.not_eq_true', List.contains_eq_mem, decide_eq_false_iff_not, decide_eq_true_eq] using this
    have hl : l.Nodup := (nodup_take l).2 fun i hi => (H i hi).2.1
    have hm : m.Nodup := (nodup_take m).2 fun i hi => (H i (by omega)).2.2.1
    refine ⟨h9, fun x hx => ?_, hl, perm_of_sub m l hm (fun x hx => ?_) (by omega)⟩
    · obtain ⟨i, hi, rfl⟩ := List.getElem_of_mem hx
      have := (H i hi).1
      rwa [List.getD_eq_getElem?_getD, List.getElem?_eq_getElem hi] at this
    · obtain ⟨i, hi, rfl⟩ := List.getElem_of_mem hx
      have := (H i (by omega)).2.2.2
      rwa [List.getD_eq_getElem?_getD, List.getElem?_eq_getElem hi] at this
/-! ### the rings -/
def outS (W G : List Int) : Nat → List Bool → List (List Int) → Nat → List (List Int)
  | 0, _, out, _ => out
  | s + 1, met, out, i => if met.getD i false = true ∨ W.getD i 0 = G.getD i 0 then outS W G s met out (i + 1)
      else outS W G s (ringL W G (W.length + 1) met [] i).2 (out ++ [(ringL W G (W.length + 1) met [] i).1]) (i + 1)
theorem ringL_len (W G : List Int) (f : Nat) : ∀ (met : List Bool) (acc : List Int) (k : Nat), acc.length ≤ (ringL W G f met acc k).1.length := by
  induction f with
  | zero => intro met acc k; exact Nat.le_refl _
  | succ f ih =>
    intro met acc k
    rw [ringL]
    split
    · exact Nat.le_refl _
    · refine Nat.le_trans ?_ (ih _ _ _)
      simp
section
variable {W G : List Int}
/-- Where the parcel at k belongs. -/
def nx (W G : List Int) (k : Nat) : Nat := (whereL W (G.getD k 0)).toNat
structure Sw (W G : List Int) : Prop where
  n9 : W.length ≤ 9
  len : G.length = W.length
  wn : W.Nodup
  gn : G.Nodup
  mem : ∀ x ∈ G, x ∈ W
theorem Sw.of {W G : List Int} (h : areSwB W G = true) : Sw W G := by
  obtain ⟨h1, _, h2, h3⟩ := (areSw_iff W G).1 h
  exact ⟨h1, h3.length_eq, h2, h3.nodup_iff.2 h2, fun x hx => h3.mem_iff.1 hx⟩
theorem getD_inj {l : List Int} (h : l.Nodup) {i j : Nat} (hi : i < l.length) (hj : j < l.length) (e : l.getD i 0 = l.getD j 0) : i = j := by
  rw [List.nodup_iff_pairwise_ne, List.pairwise_iff_getElem] at h
  rw [List.getD_eq_getElem?_getD, List.getD_eq_getElem?_getD, List.getElem?_eq_getElem hi, List.getElem?_eq_getElem hj] at e
  simp only [Option.getD_some] at e
  rcases Nat.lt_trichotomy i j with hlt | heq | hgt
  · exact absurd e (h i j hi hj hlt)
  · exact heq
  · exact absurd e.symm (h j i hj hi hgt)
theorem Sw.nx_spec (h : Sw W G) {k : Nat} (hk : k < W.length) : nx W G k < W.length ∧ W.getD (nx W G k) 0 = G.getD k 0 := by
  have hm : G.getD k 0 ∈ G := by rw [List.getD_eq_getElem?_getD, List.getElem?_eq_getElem (show k < G.length by rw [h.len]; exact hk)]; exact List.getElem_mem _
  obtain ⟨j, h1, h2, h3⟩ := whereL_in (h.mem _ hm)
  have : nx W G k = j := by unfold nx; rw [h2]; simp
  rw [this]
  exact ⟨h1, h3⟩
theorem Sw.nx_inj (h : Sw W G) {a b : Nat} (ha : a < W.length) (hb : b < W.length) (e : nx W G a = nx W G b) : a = b := by
  have h1 := (h.nx_spec ha).2
  have h2 := (h.nx_spec hb).2
  rw [e, h2] at h1
  exact getD_inj h.gn (by rw [h.len]; exact ha) (by rw [h.len]; exact hb) h1.symm
def fixB (W G : List Int) (k : Nat) : Bool := decide (W.getD k 0 = G.getD k 0)
theorem Sw.nx_fix (h : Sw W G) {k : Nat} (hk : k < W.length) : fixB W G k = true ↔ nx W G k = k := by
  unfold fixB
  rw [decide_eq_true_eq]
  constructor
  · intro e
    exact getD_inj h.wn (h.nx_spec hk).1 hk (by rw [(h.nx_spec hk).2, e])
  · intro e
    have := (h.nx_spec hk).2
    rw [e] at this
    exact this
/-- A parcel that is wrong goes on to a parcel that is wrong. -/
theorem Sw.nx_wrong (h : Sw W G) {k : Nat} (hk : k < W.length) (hf : fixB W G k = false) : fixB W G (nx W G k) = false := by
  cases hq : fixB W G (nx W G k) with
  | false => rfl
  | true =>
    have h1 := (h.nx_fix (h.nx_spec hk).1).1 hq
    have h2 := h.nx_inj (h.nx_spec hk).1 hk h1
    rw [(h.nx_fix hk).2 h2] at hf
    cases hf
/-- impl's marks and spec's: impl marks what lies right too. -/
structure Both (W G : List Int) (i : Nat) (mI mS : List Bool) : Prop where
  lI : mI.length = W.length
  lS : mS.length = W.length
  same : ∀ j, j < W.length → mI.getD j false = (mS.getD j false || (decide (j < i) && fixB W G j))
  wrong : ∀ j, j < W.length → mS.getD j false = true → fixB W G j = false
theorem Both.set {i : Nat} {mI mS : List Bool} (h : Both W G i mI mS) {k : Nat} (hk : k < W.length) (hf : fixB W G k = false) : Both W G i (mI.set k true) (mS.set k true) := by
  refine ⟨by rw [List.length_set, h.lI], by rw [List.length_set, h.lS], fun j hj => ?_, fun j hj hm => ?_⟩
  · rw [getD_set mI k j (by rw [h.lI]; exact hk), getD_set mS k j (by rw [h.lS]; exact hk)]
    split
    · rfl
    · exact h.same j hj
  · rw [getD_set mS k j (by rw [h.lS]; exact hk)] at hm
    split at hm
    · rename_i e; rw [e]; exact hf
    · exact h.wrong j hj hm
theorem Both.at {i : Nat} {mI mS : List Bool} (h : Both W G i mI mS) {k : Nat} (hk : k < W.length) (hf : fixB W G k = false) : mI.getD k false = mS.getD k false := by
  rw [h.same k hk, hf]
  simp
theorem ring_both (hw : Sw W G) (i0 i : Nat) (f : Nat) : ∀ (mI mS : List Bool) (acc : List Int) (k : Nat), Both W G i mI mS → k < W.length → fixB W G k = false → mS.count false < f →
    (∀ x, x < W.length → mS.getD (nx W G x) false = true → mS.getD x false = true ∨ nx W G x = i0) →
    (mS.getD k false = true → k = i0) → ((k = i0 ∧ mS.getD k false = false) ∨ ∃ p, p < W.length ∧ nx W G p = k ∧ mS.getD p false = true) →
    (ringL W G f mI acc k).1 = (ringL W G f mS acc k).1 ∧ Both W G i (ringL W G f mI acc k).2 (ringL W G f mS acc k).2 ∧ (∀ x, x < W.length → (ringL W G f mS acc k).2.getD (nx W G x) false = true → (ringL W G f mS acc k).2.getD x false = true) := by
  induction f with
  | zero => intro mI mS acc k _ _ _ h; omega
  | succ f ih =>
    intro mI mS acc k hB hk hf hc hcl hst hpr
    cases hm : mS.getD k false with
    | true =>
      rw [ringL_stop W G _ mI acc k (by rw [hB.at hk hf, hm]), ringL_stop W G _ mS acc k hm]
      refine ⟨rfl, hB, fun x hx hxm => ?_⟩
      rcases hcl x hx hxm with h | h
      · exact h
      · rcases hpr with ⟨_, h2⟩ | ⟨p, hp, hpk, hpm⟩
        · rw [hm] at h2; cases h2
        · have : x = p := hw.nx_inj hx hp (by rw [h, hpk, hst hm])
          rw [this]; exact hpm
    | false =>
      rw [ringL_go W G f mI acc k (by rw [hB.at hk hf, hm]), ringL_go W G f mS acc k hm]
      have hkS : k < mS.length := by rw [hB.lS]; exact hk
      have hsp := hw.nx_spec hk
      have hne : nx W G k ≠ k := fun e => by rw [(hw.nx_fix hk).2 e] at hf; cases hf
      refine ih (mI.set k true) (mS.set k true) (acc ++ [(k : Int)]) (nx W G k) (hB.set hk hf) hsp.1 (hw.nx_wrong hk hf) ?_ ?_ ?_ ?_
      · have := unmet_set mS k hkS hm; omega
      · intro x hx hxm
        rw [getD_set mS k _ hkS] at hxm ⊢
        by_cases hxk : x = k
        · rw [if_pos hxk]; exact .inl rfl
        · rw [if_neg hxk]
          by_cases hnk : nx W G x = k
          · rcases hpr with ⟨h1, _⟩ | ⟨p, hp, hpk, hpm⟩
            · right; rw [hnk, h1]
            · left
              have : x = p := hw.nx_inj hx hp (by rw [hnk, hpk])
              rw [this]; exact hpm
          · rw [if_neg hnk] at hxm
            exact hcl x hx hxm
      · intro h
        rw [getD_set mS k _ hkS, if_neg hne] at h
        rcases hcl k hk h with h1 | h1
        · rw [hm] at h1; cases h1
        · exact h1
      · right
        exact ⟨k, hk, rfl, by rw [getD_set mS k _ hkS, if_pos rfl]⟩
theorem outs_same (hw : Sw W G) (s : Nat) : ∀ (mI mS : List Bool) (out : List (List Int)) (i : Nat), i + s = W.length → Both W G i mI mS →
    (∀ x, x < W.length → mS.getD (nx W G x) false = true → mS.getD x false = true) → outI W G s mI out i = outS W G s mS out i := by
  induction s with
  | zero => intro mI mS out i _ _ _; rfl
  | succ s ih =>
    intro mI mS out i hi hB hcl
    have hil : i < W.length := by omega
    rw [outI, outS]
    have hI := hB.same i hil
    rw [show (decide (i < i)) = false by simp, Bool.false_and, Bool.or_false] at hI
    by_cases hm : mS.getD i false = true
    · rw [if_pos (Or.inl hm), ringL_stop W G _ mI [] i (by rw [hI, hm])]
      simp only [List.length_nil, Nat.not_lt_zero, if_false]
      refine ih mI mS out (i + 1) (by omega) ⟨hB.lI, hB.lS, fun j hj => ?_, hB.wrong⟩ hcl
      rw [hB.same j hj]
      by_cases hji : j = i
      · subst hji; rw [hm]; rfl
      · congr 2
        simp only [decide_eq_decide]
        omega
    · have hm' : mS.getD i false = false := by simpa using hm
      cases hf : fixB W G i with
      | true =>
        have hfe : W.getD i 0 = G.getD i 0 := by simpa [fixB] using hf
        rw [if_pos (Or.inr hfe)]
        have hnx : nx W G i = i := (hw.nx_fix hil).1 hf
        have hr : ringL W G (W.length + 1) mI [] i = ([(i : Int)], mI.set i true) := by
          rw [ringL_go W G _ mI [] i (by rw [hI, hm'])]
          have : (whereL W (G.getD i 0)).toNat = i := hnx
          rw [this, ringL_stop W G _ _ _ i (by rw [getD_set mI i i (by rw [hB.lI]; exact hil), if_pos rfl])]
          rfl
        rw [hr]
        simp only [List.length_cons, List.length_nil, Nat.lt_irrefl, Nat.zero_add, if_false]
        refine ih (mI.set i true) mS out (i + 1) (by omega) ⟨by rw [List.length_set, hB.lI], hB.lS, fun j hj => ?_, hB.wrong⟩ hcl
        rw [getD_set mI i j (by rw [hB.lI]; exact hil)]
        by_cases hji : j = i
        · subst hji; rw [if_pos rfl, hf]; simp
        · rw [if_neg hji, hB.same j hj]
          congr 2
          simp only [decide_eq_decide]
          omega
      | false =>
        have hfe : ¬ W.getD i 0 = G.getD i 0 := by simpa [fixB] using hf
        rw [if_neg (show ¬ (mS.getD i false = true ∨ W.getD i 0 = G.getD i 0) from fun h => h.elim hm hfe)]
        have hcnt : mS.count false < W.length + 1 := by have := List.count_le_length (a := false) (l := mS); have := hB.lS; omega
        obtain ⟨r1, r2, r3⟩ := ring_both hw i i (W.length + 1) mI mS [] i hB hil hf hcnt (fun x hx h => .inl (hcl x hx h)) (fun _ => rfl) (.inl ⟨rfl, hm'⟩)
        have hlen : 1 < (ringL W G (W.length + 1) mI [] i).1.length := by
          have hne : nx W G i ≠ i := fun e => by rw [(hw.nx_fix hil).2 e] at hf; cases hf
          have hsp := hw.nx_spec hil
          have h2 : (mI.set i true).getD (nx W G i) false = false := by
            rw [getD_set mI i _ (by rw [hB.lI]; exact hil), if_neg hne, hB.at hsp.1 (hw.nx_wrong hil hf)]
            cases hq : mS.getD (nx W G i) false with
            | false => rfl
            | true => have := hcl i hil hq; rw [hm'] at this; cases this
          rw [ringL_go W G _ mI [] i (by rw [hI, hm'])]
          obtain ⟨n', hn'⟩ : ∃ n', W.length = n' + 1 := ⟨W.length - 1, by omega⟩
          rw [hn', show (whereL W (G.getD i 0)).toNat = nx W G i from rfl, ringL_go W G n' _ _ _ h2]
          refine Nat.lt_of_lt_of_le ?_ (ringL_len W G n' _ _ _)
          simp
        rw [if_pos hlen, r1]
        refine ih _ _ _ (i + 1) (by omega) ⟨r2.lI, r2.lS, fun j hj => ?_, r2.wrong⟩ r3
        rw [r2.same j hj]
        by_cases hji : j = i
        · subst hji; rw [hf]; simp
        · congr 2
          simp only [decide_eq_decide]
          omega
end
def ringsS (W G : List Int) : List (List Int) := outS W G W.length (List.replicate W.length false) [] 0
theorem rep_false (n j : Nat) : (List.replicate n false).getD j false = false := by
  rw [List.getD_eq_getElem?_getD, List.getElem?_replicate]
  split <;> rfl
theorem rings_same {W G : List Int} (h : areSwB W G = true) : ringsI W G = ringsS W G := by
  refine outs_same (Sw.of h) W.length _ _ [] 0 (by omega) ⟨by simp, by simp, fun j hj => ?_, fun j hj hm => ?_⟩ (fun x hx hm => ?_)
  · rw [rep_false]; simp
  · rw [rep_false] at hm; cases hm
  · rw [rep_false] at hm; cases hm
end Go.Proofs.Ytgjpnamckkedfaa.Q
