/- Putting all right by exchanges, from the first one on: as many exchanges as the rings' lengths, less one each. -/
import Derived.Test.YtgjpnamckkedfaaRingFacts
set_option linter.unusedVariables false
set_option linter.unusedSimpArgs false
namespace Go.Proofs.Ytgjpnamckkedfaa.Q
structure Cyc (f : Nat → Nat) (n i : Nat) (C : List (List Nat)) : Prop where
  ring : ∀ c ∈ C, Ring f c ∧ 2 ≤ c.length
  nodup : C.flatten.Nodup
  rng : ∀ x ∈ C.flatten, i ≤ x ∧ x < n
  fixed : ∀ j, j < n → j ∉ C.flatten → f j = j
  inj : ∀ a b, a < n → b < n → f a = f b → a = b
  maps : ∀ a, a < n → f a < n
def wt (C : List (List Nat)) : Nat := (C.map fun c => c.length - 1).sum
theorem ring_moves {f : Nat → Nat} {x : Nat} {r : List Nat} (h : Ring f (x :: r)) (h2 : 1 ≤ r.length) (hn : (x :: r).Nodup) : f x ≠ x := by
  cases r with
  | nil => simp at h2
  | cons y r =>
    have h1 : f x = y := h.1
    rw [h1]
    intro e
    subst e
    exact (List.nodup_cons.1 hn).1 (by simp)
theorem Cyc.split {f : Nat → Nat} {n i x : Nat} {C : List (List Nat)} (h : Cyc f n i C) (hx : x ∈ C.flatten) : ∃ L1 c L2 l1 l2, C = L1 ++ c :: L2 ∧ c = l1 ++ x :: l2 := by
  obtain ⟨c, hc, hxc⟩ := List.mem_flatten.1 hx
  obtain ⟨L1, L2, rfl⟩ := List.append_of_mem hc
  obtain ⟨l1, l2, rfl⟩ := List.append_of_mem hxc
  exact ⟨L1, _, L2, l1, l2, rfl, rfl⟩
theorem Cyc.still {f : Nat → Nat} {n i : Nat} {C : List (List Nat)} (h : Cyc f n i C) (hf : f i = i) : Cyc f n (i + 1) C := by
  refine ⟨h.ring, h.nodup, fun x hx => ?_, h.fixed, h.inj, h.maps⟩
  obtain ⟨h1, h2⟩ := h.rng x hx
  refine ⟨?_, h2⟩
  by_cases e : x = i
  · exfalso
    subst e
    obtain ⟨L1, c, L2, l1, l2, rfl, rfl⟩ := h.split hx
    obtain ⟨g1, g2⟩ := h.ring (l1 ++ x :: l2) (by simp)
    have hn := h.nodup
    rw [List.flatten_append, List.nodup_append] at hn
    have hn2 := hn.2.1
    rw [List.flatten_cons, List.nodup_append] at hn2
    have hn3 : (x :: l2 ++ l1).Nodup := by
      have hp : (l1 ++ x :: l2).Perm (x :: l2 ++ l1) := List.perm_append_comm
      exact hp.nodup_iff.1 hn2.1
    exact ring_moves g1.rot (by simp at g2 ⊢; omega) hn3 hf
  · omega
/-- One exchange. -/
def swp (f : Nat → Nat) (i k : Nat) : Nat → Nat := fun j => if j = i then i else if j = k then f i else f j
theorem Cyc.swap {f : Nat → Nat} {n i : Nat} {C : List (List Nat)} (h : Cyc f n i C) (hi : i < n) (hf : f i ≠ i) : ∃ k C', i < k ∧ k < n ∧ f k = i ∧ Cyc (swp f i k) n (i + 1) C' ∧ wt C' + 1 = wt C := by
  have hx : i ∈ C.flatten := Classical.byContradiction fun hx => hf (h.fixed i hi hx)
  obtain ⟨L1, c, L2, l1, l2, rfl, rfl⟩ := h.split hx
  obtain ⟨g1, g2⟩ := h.ring (l1 ++ i :: l2) (by simp)
  have hrot := g1.rot
  obtain ⟨r, hr⟩ : ∃ r, r = l2 ++ l1 := ⟨_, rfl⟩
  rw [List.cons_append, ← hr] at hrot
  have hrl : r.length + 1 = (l1 ++ i :: l2).length := by rw [hr]; simp; omega
  have hr1 : 1 ≤ r.length := by omega
  have hn := h.nodup
  have hmem : ∀ x, x ∈ r → x ∈ (l1 ++ i :: l2) := fun x hx => by rw [hr] at hx; simp at hx ⊢; exact hx.elim (fun e => .inr (.inr e)) .inl
  have hP : ((i :: r) ++ (L1.flatten ++ L2.flatten)).Perm (L1 ++ (l1 ++ i :: l2) :: L2).flatten := by
    rw [List.flatten_append, List.flatten_cons, hr]
    have e1 : (i :: (l2 ++ l1)).Perm (l1 ++ i :: l2) := by
      have : (i :: l2 ++ l1).Perm (l1 ++ i :: l2) := List.perm_append_comm
      simpa using this
    refine (List.Perm.append_right _ e1).trans ?_
    rw [← List.append_assoc, ← List.append_assoc]
    exact List.Perm.append_right _ List.perm_append_comm
  have hN := hP.nodup_iff.2 hn
  rw [List.nodup_append] at hN
  obtain ⟨hN1, hN2, hN3⟩ := hN
  obtain ⟨hir, hrn⟩ := List.nodup_cons.1 hN1
  obtain ⟨m, k, hmk⟩ : ∃ m k, r = m ++ [k] := by
    have hne : r ≠ [] := fun e => by rw [e] at hr1; simp at hr1
    exact ⟨r.dropLast, r.getLast hne, (List.dropLast_concat_getLast hne).symm⟩
  have hkr : k ∈ r := by rw [hmk]; simp
  have hkf : k ∈ (L1 ++ (l1 ++ i :: l2) :: L2).flatten := hP.mem_iff.1 (by simp [hkr])
  have hki : k ≠ i := fun e => hir (by rw [← e]; exact hkr)
  have hkn := (h.rng k hkf).2
  -- the last one leads to i, i to the first one
  have hs : Seg f (i :: (m ++ k :: [i])) := by
    have : Seg f (i :: r ++ [i]) := hrot
    rw [hmk] at this
    simpa using this
  have hs2 : Seg f ((i :: m) ++ k :: [i]) := by simpa using hs
  obtain ⟨s1, s2⟩ := (Seg.split f k (i :: m) [i]).1 hs2
  have hfk : f k = i := s2.1
  have hik : i < k := by have := (h.rng k hkf).1; omega
  have hg : ∀ x, x ≠ i → x ≠ k → swp f i k x = f x := fun x h1 h2 => by unfold swp; rw [if_neg h1, if_neg h2]
  have hgk : swp f i k k = f i := by unfold swp; rw [if_neg hki, if_pos rfl]
  have hgi : swp f i k i = i := by unfold swp; rw [if_pos rfl]
  have hinj : ∀ a b, a < n → b < n → swp f i k a = swp f i k b → a = b := by
    intro a b ha hb e
    unfold swp at e
    by_cases a1 : a = i
    · rw [if_pos a1] at e
      by_cases b1 : b = i
      · rw [a1, b1]
      · rw [if_neg b1] at e
        by_cases b2 : b = k
        · rw [if_pos b2] at e; exact absurd e.symm hf
        · rw [if_neg b2] at e
          exact absurd (h.inj b k hb hkn (by rw [← e, hfk])) b2
    · rw [if_neg a1] at e
      by_cases b1 : b = i
      · rw [if_pos b1] at e
        by_cases a2 : a = k
        · rw [if_pos a2] at e; exact absurd e hf
        · rw [if_neg a2] at e
          exact absurd (h.inj a k ha hkn (by rw [e, hfk])) a2
      · rw [if_neg b1] at e
        by_cases a2 : a = k
        · rw [if_pos a2] at e
          by_cases b2 : b = k
          · rw [a2, b2]
          · rw [if_neg b2] at e
            exact absurd (h.inj i b hi hb e).symm b1
        · rw [if_neg a2] at e
          by_cases b2 : b = k
          · rw [if_pos b2] at e
            exact absurd (h.inj a i ha hi e) a1
          · rw [if_neg b2] at e
            exact h.inj a b ha hb e
  have hmaps : ∀ a, a < n → swp f i k a < n := fun a ha => by
    unfold swp
    split
    · exact hi
    · split
      · exact h.maps i hi
      · exact h.maps a ha
  have hother : ∀ c', c' ∈ L1 ++ L2 → Ring (swp f i k) c' ∧ 2 ≤ c'.length := fun c' hc' => by
    have hcC : c' ∈ L1 ++ (l1 ++ i :: l2) :: L2 := by
      rcases List.mem_append.1 hc' with h | h
      · simp [h]
      · simp [h]
    obtain ⟨q1, q2⟩ := h.ring c' hcC
    refine ⟨Ring.congr (fun x hx => (hg x ?_ ?_).symm) q1, q2⟩
    · intro e
      exact hN3 i (by simp) i (by rw [← List.flatten_append]; exact List.mem_flatten.2 ⟨c', hc', by rw [← e]; exact hx⟩) rfl
    · intro e
      exact hN3 k (by simp [hkr]) k (by rw [← List.flatten_append]; exact List.mem_flatten.2 ⟨c', hc', by rw [← e]; exact hx⟩) rfl
  have hrest : ∀ x, x ∈ L1.flatten ++ L2.flatten → x ∈ (L1 ++ (l1 ++ i :: l2) :: L2).flatten := fun x hx => hP.mem_iff.1 (List.mem_append_right _ hx)
  have hrest2 : ∀ x, x ∈ r → x ∈ (L1 ++ (l1 ++ i :: l2) :: L2).flatten := fun x hx => hP.mem_iff.1 (List.mem_append_left _ (List.mem_cons_of_mem _ hx))
  have hwt : ∀ A B : List (List Nat), wt (A ++ B) = wt A + wt B := fun A B => by unfold wt; rw [List.map_append, List.sum_append]
  have hwc : ∀ (c : List Nat) (B : List (List Nat)), wt (c :: B) = (c.length - 1) + wt B := fun c B => by unfold wt; rw [List.map_cons, List.sum_cons]
  cases m with
  | nil =>
    -- two of them: both lie right now
    have hrk : r = [k] := by rw [hmk]; rfl
    have hfi : f i = k := by
      have : Seg f (i :: k :: [i]) := by simpa using hs
      exact this.1
    refine ⟨k, L1 ++ L2, hik, hkn, hfk, ⟨hother, ?_, fun x hx => ?_, fun j hj hjn => ?_, hinj, hmaps⟩, ?_⟩
    · rw [List.flatten_append]; exact hN2
    · rw [List.flatten_append] at hx
      have h1 := h.rng x (hrest x hx)
      have : x ≠ i := fun e => hN3 i (by simp) x hx e.symm
      omega
    · by_cases e1 : j = i
      · rw [e1]; exact hgi
      · by_cases e2 : j = k
        · rw [e2, hgk, hfi]
        · rw [hg j e1 e2]
          refine h.fixed j hj fun hm => hjn ?_
          have := hP.mem_iff.2 hm
          rw [hrk] at this
          rw [List.flatten_append]
          simpa [e1, e2] using this
    · rw [hwt, hwt, hwc]
      have : (l1 ++ i :: l2).length = 2 := by rw [← hrl, hrk]; rfl
      omega
  | cons y m' =>
    have hry : r = y :: (m' ++ [k]) := by rw [hmk]; rfl
    have hfi : f i = y := by
      have : Seg f (i :: y :: (m' ++ k :: [i])) := by simpa using hs
      exact this.1
    have hrng : Ring (swp f i k) r := by
      rw [hry]
      show Seg (swp f i k) (y :: (m' ++ [k]) ++ [y])
      have e : y :: (m' ++ [k]) ++ [y] = (y :: m') ++ k :: [y] := by simp
      rw [e]
      refine (Seg.split _ k (y :: m') [y]).2 ⟨?_, ⟨by rw [hgk, hfi], trivial⟩⟩
      have s3 : Seg f ((y :: m') ++ [k]) := by
        have : Seg f (i :: ((y :: m') ++ [k])) := by simpa using s1
        exact this.2
      refine Seg.congr _ (fun x hx => ?_) s3
      rw [List.dropLast_concat] at hx
      have hxr : x ∈ r := by rw [hmk]; exact List.mem_append_left _ hx
      refine (hg x (fun e => hir (by rw [← e]; exact hxr)) (fun e => ?_)).symm
      rw [hmk, List.nodup_append] at hrn
      exact hrn.2.2 x hx k (by simp) e
    refine ⟨k, L1 ++ r :: L2, hik, hkn, hfk, ⟨fun c' hc' => ?_, ?_, fun x hx => ?_, fun j hj hjn => ?_, hinj, hmaps⟩, ?_⟩
    · rcases List.mem_append.1 hc' with hc' | hc'
      · exact hother c' (List.mem_append_left _ hc')
      · rcases List.mem_cons.1 hc' with rfl | hc'
        · exact ⟨hrng, by rw [hmk]; simp⟩
        · exact hother c' (List.mem_append_right _ hc')
    · have hP2 : (r ++ (L1.flatten ++ L2.flatten)).Perm (L1 ++ r :: L2).flatten := by
        rw [List.flatten_append, List.flatten_cons, ← List.append_assoc, ← List.append_assoc]
        exact List.Perm.append_right _ List.perm_append_comm
      refine hP2.nodup_iff.1 ?_
      rw [List.nodup_append]
      exact ⟨hrn, hN2, fun a ha b hb => hN3 a (List.mem_cons_of_mem _ ha) b hb⟩
    · have hx' : x ∈ r ∨ x ∈ L1.flatten ++ L2.flatten := by
        rw [List.flatten_append, List.flatten_cons] at hx
        simp only [List.mem_append] at hx ⊢
        rcases hx with h | h | h
        · exact .inr (.inl h)
        · exact .inl h
        · exact .inr (.inr h)
      have hin : x ∈ (L1 ++ (l1 ++ i :: l2) :: L2).flatten := hx'.elim (hrest2 x) (hrest x)
      have h1 := h.rng x hin
      have hne : x ≠ i := fun e => hx'.elim (fun hh => hir (by rw [← e]; exact hh)) (fun hh => hN3 i (by simp) x hh e.symm)
      omega
    · by_cases e1 : j = i
      · rw [e1]; exact hgi
      · have hjr : j ∉ r := fun hh => hjn (by rw [List.flatten_append, List.flatten_cons]; simp [hh])
        have e2 : j ≠ k := fun e => hjr (by rw [e]; exact hkr)
        rw [hg j e1 e2]
        refine h.fixed j hj fun hm => hjn ?_
        have := hP.mem_iff.2 hm
        rw [List.flatten_append, List.flatten_cons]
        simp only [List.mem_append, List.mem_cons] at this ⊢
        rcases this with (h | h) | h | h
        · exact absurd h e1
        · exact .inr (.inl h)
        · exact .inl h
        · exact .inr (.inr h)
    · rw [hwt, hwt, hwc, hwc, ← hrl, hmk]
      simp
      omega
theorem Cyc.done {f : Nat → Nat} {n : Nat} {C : List (List Nat)} (h : Cyc f n n C) : wt C = 0 := by
  cases C with
  | nil => rfl
  | cons c C =>
    exfalso
    obtain ⟨_, h2⟩ := h.ring c (by simp)
    cases c with
    | nil => simp at h2
    | cons x c =>
      have := h.rng x (by simp)
      omega
theorem Rs.cyc {W G : List Int} (hw : Sw W G) {met : List Bool} {out : List (List Nat)} (h : Rs W G W.length met out) : Cyc (nx W G) W.length 0 out := by
  refine ⟨fun c hc => ⟨(h.ring c hc).1, (h.ring c hc).2.1⟩, h.nodup, fun x hx => ⟨Nat.zero_le _, ?_⟩, fun j hj hjn => ?_, fun a b ha hb e => hw.nx_inj ha hb e, fun a ha => (hw.nx_spec ha).1⟩
  · obtain ⟨c, hc, hxc⟩ := List.mem_flatten.1 hx
    exact ((h.ring c hc).2.2.2 x hxc).2
  · refine (hw.nx_fix hj).1 ?_
    cases hf : fixB W G j with
    | true => rfl
    | false => exact absurd ((h.mem j hj).1 (h.seen j hj hj hf)) hjn
end Go.Proofs.Ytgjpnamckkedfaa.Q
