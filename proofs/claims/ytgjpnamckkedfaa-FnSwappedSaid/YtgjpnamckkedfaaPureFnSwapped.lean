/- The pure statement of FnSwapped: rings have all whose parcels are wrong, each goes round; exchanges as many as told put all right. -/
import Derived.Test.YtgjpnamckkedfaaQD
import Derived.Test.YtgjpnamckkedfaaExMath
import Derived.Test.YtgjpnamckkedfaaSelFacts
import Derived.Test.YtgjpnamckkedfaaDrawO
import Derived.Test.YtgjpnamckkedfaaQ3
import Derived.OpenShut
set_option linter.unusedVariables false
set_option linter.unusedSimpArgs false
namespace Go.Proofs.Ytgjpnamckkedfaa.Q
open Go.RowKit Go.Proofs.YtgjpnamckkedfaaW.PrintWords Go.Proofs.YtgjpnamckkedfaaW.PrintLast Go.Proofs.YtgjpnamckkedfaaW.PrintMore Go.Proofs.Ytgjpnamckkedfaa.Loops
theorem seg_at (f : Nat → Nat) : ∀ (l : List Nat) (i : Nat), Seg f l → i + 1 < l.length → f (l.getD i 0) = l.getD (i + 1) 0
  | [], i, _, h => by simp at h
  | [a], i, _, h => by simp at h
  | a :: b :: r, 0, h, _ => by simpa using h.1
  | a :: b :: r, i + 1, h, hi => by
    have := seg_at f (b :: r) i h.2 (by simpa using hi)
    simpa using this
theorem ring_at {f : Nat → Nat} {c : List Nat} (h : Ring f c) (i : Nat) (hi : i < c.length) : f (c.getD i 0) = c.getD ((i + 1) % c.length) 0 := by
  cases c with
  | nil => simp at hi
  | cons a r =>
    have h1 := seg_at f (a :: r ++ [a]) i h (by simp at hi ⊢; omega)
    have e1 : (a :: r ++ [a]).getD i 0 = (a :: r).getD i 0 := by
      rw [List.getD_eq_getElem?_getD, List.getD_eq_getElem?_getD, List.getElem?_append_left hi]
    rw [e1] at h1
    rw [h1]
    by_cases hl : i + 1 < (a :: r).length
    · rw [Nat.mod_eq_of_lt hl, List.getD_eq_getElem?_getD, List.getD_eq_getElem?_getD, List.getElem?_append_left hl]
    · have e2 : i + 1 = (a :: r).length := by omega
      rw [e2, Nat.mod_self, List.getD_eq_getElem?_getD, List.getElem?_append_right (Nat.le_refl _)]
      simp
theorem castL_len (c : List Nat) : (castL c).length = c.length := by simp [castL]
theorem castL_at (c : List Nat) (i : Nat) : (castL c).getD i 0 = ((c.getD i 0 : Nat) : Int) := by
  unfold castL
  simp only [List.getD_eq_getElem?_getD, List.getElem?_map]
  cases c[i]? <;> rfl
theorem mapc_at (out : List (List Nat)) (i : Nat) : (out.map castL).getD i [] = castL (out.getD i []) := by
  simp only [List.getD_eq_getElem?_getD, List.getElem?_map]
  cases out[i]? <;> rfl
theorem getD_memN {l : List (List Nat)} {i : Nat} (h : i < l.length) : l.getD i [] ∈ l := by
  rw [List.getD_eq_getElem?_getD, List.getElem?_eq_getElem h]; exact List.getElem_mem h
theorem getD_memL {l : List Nat} {i : Nat} (h : i < l.length) : l.getD i 0 ∈ l := by
  rw [List.getD_eq_getElem?_getD, List.getElem?_eq_getElem h]; exact List.getElem_mem h
/-- The lengths of the first p rings. -/
def sumTo (out : List (List Nat)) (p : Nat) : Nat := ((out.take p).map List.length).sum
theorem sumTo_succ (out : List (List Nat)) (p : Nat) (h : p < out.length) : sumTo out (p + 1) = sumTo out p + (out.getD p []).length := by
  unfold sumTo
  rw [List.take_add_one, List.getElem?_eq_getElem h, List.map_append, List.sum_append, List.getD_eq_getElem?_getD, List.getElem?_eq_getElem h]
  simp
theorem sumTo_all (out : List (List Nat)) : sumTo out out.length = out.flatten.length := by
  unfold sumTo
  rw [List.take_length, List.length_flatten]
/-- Exchanges: the rings' lengths less one each. -/
theorem exS_is : ∀ (out : List (List Nat)) (acc : Int), 0 ≤ acc → acc + 20 * out.length ≤ 10000 → (∀ c ∈ out, 2 ≤ c.length ∧ c.length ≤ 20) → exS acc (out.map castL) = acc + (wt out : Int) ∧ wt out + out.length = out.flatten.length
  | [], acc, _, _, _ => by simp [exS, wt]
  | c :: out, acc, h0, h1, h2 => by
    obtain ⟨c2, c9⟩ := h2 c (by simp)
    simp only [List.length_cons, Int.natCast_add, Int.mul_add] at h1
    have hi := exS_is out (acc + ((c.length : Int) - 1)) (by omega) (by omega) (fun d hd => h2 d (by simp [hd]))
    rw [List.map_cons, exS, castL_len, w64 (n := (c.length : Int) - 1) (by omega) (by omega), w64 (n := acc + ((c.length : Int) - 1)) (by omega) (by omega), hi.1]
    have hw : wt (c :: out) = (c.length - 1) + wt out := by unfold wt; simp
    refine ⟨by rw [hw]; omega, ?_⟩
    rw [hw, List.flatten_cons, List.length_append, List.length_cons]
    omega
/-- What lies as f says. -/
def Lies (W now : List Int) (f : Nat → Nat) : Prop := now.length = W.length ∧ ∀ j, j < W.length → now.getD j 0 = W.getD (f j) 0
section
variable {W G : List Int}
theorem getD_setI (l : List Int) (k j : Nat) (v : Int) (hk : k < l.length) : (l.set k v).getD j 0 = if j = k then v else l.getD j 0 := by
  simp only [List.getD_eq_getElem?_getD, List.getElem?_set]
  by_cases h : k = j
  · subst h; simp [hk]
  · rw [if_neg h, if_neg (fun e => h e.symm)]
theorem Lies.swap {now : List Int} {f : Nat → Nat} (h : Lies W now f) {i k : Nat} (hi : i < W.length) (hk : k < W.length) (hik : i ≠ k) : Lies W ((now.set k (now.getD i 0)).set i (W.getD i 0)) (swp f i k) := by
  obtain ⟨hl, ha⟩ := h
  refine ⟨by simp [hl], fun j hj => ?_⟩
  rw [getD_setI _ i j _ (by simp; omega), getD_setI _ k j _ (by omega)]
  unfold swp
  by_cases e1 : j = i
  · rw [if_pos e1, if_pos e1]
  · rw [if_neg e1, if_neg e1]
    by_cases e2 : j = k
    · rw [if_pos e2, if_pos e2, ha i hi]
    · rw [if_neg e2, if_neg e2, ha j hj]
theorem Lies.is {now : List Int} {f : Nat → Nat} (h : Lies W now f) (hn : W.Nodup) {i k : Nat} (hi : i < W.length) (hk : k < W.length) (hf : f k < W.length) : now.getD k 0 = W.getD i 0 ↔ f k = i := by
  rw [h.2 k hk]
  exact ⟨fun e => getD_inj hn hf hi e, fun e => by rw [e]⟩
/-- The inner way: nothing more is sought. -/
theorem sel_stop (D : List (List Int)) (few inn wrong swaps : Int) (now : List Int) (hn : W.length ≤ 9) {i kk K : Nat} (hi : i < W.length) (hl : now.length = W.length) (hw : now.getD i 0 = W.getD i 0 ∨ W.length ≤ kk)
    (hN : ∀ k, K ≤ k → laws_FnSwapped.l3 k (W.length : Int) W G D few inn wrong now swaps ((i + 1 : Nat) : Int) = some true) (k : Nat) (hk : K + 2 ≤ k) : laws_FnSwapped.l4 k (W.length : Int) W G D few inn wrong now swaps (i : Int) (kk : Int) = some true := by
  obtain ⟨k, rfl⟩ : ∃ k', k = k' + 2 := ⟨k - 2, by omega⟩
  have hN' := hN k (by omega)
  rw [show ((i + 1 : Nat) : Int) = wrap64 ((i : Int) + 1) by rw [w64 (by omega) (by omega)]; omega] at hN'
  rw [laws_FnSwapped.l4]
  by_cases h1 : (kk : Int) < (W.length : Int)
  · have hw' : now.getD i 0 = W.getD i 0 := hw.resolve_right (by omega)
    rw [if_pos h1, if_pos (by omega), if_pos (by omega), if_pos (by omega), rd_nat, rd_nat, hw', laws_FnSwapped.j8, if_neg (by simp)]
    exact hN'
  · rw [if_neg h1, laws_FnSwapped.j8, if_neg (by simp)]
    exact hN'
/-- The inner way: on to the one that is sought. -/
theorem sel_go (hn9 : W.length ≤ 9) (hnd : W.Nodup) (D : List (List Int)) (few inn wrong swaps : Int) (hs0 : 0 ≤ swaps) (hs1 : swaps ≤ 1000) {now : List Int} {f : Nat → Nat} (hL : Lies W now f) (hmaps : ∀ a, a < W.length → f a < W.length) (hinj : ∀ a b, a < W.length → b < W.length → f a = f b → a = b)
    {i k0 K : Nat} (hi : i < k0) (hk0 : k0 < W.length) (hf : f k0 = i) (hfi : f i ≠ i)
    (hN : ∀ k, K ≤ k → laws_FnSwapped.l3 k (W.length : Int) W G D few inn wrong ((now.set k0 (now.getD i 0)).set i (W.getD i 0)) (swaps + 1) ((i + 1 : Nat) : Int) = some true) :
    ∀ (d kk : Nat), kk + d = k0 → i < kk → ∀ k, K + 2 * d + 4 ≤ k → laws_FnSwapped.l4 k (W.length : Int) W G D few inn wrong now swaps (i : Int) (kk : Int) = some true := by
  intro d
  have hl := hL.1
  have hne : now.getD i 0 ≠ W.getD i 0 := fun e => hfi ((hL.is hnd (by omega) (by omega) (hmaps i (by omega))).1 e)
  induction d with
  | zero =>
    intro kk hkk hik k hk
    obtain ⟨k, rfl⟩ : ∃ k', k = k' + 2 := ⟨k - 2, by omega⟩
    obtain rfl : kk = k0 := by omega
    have he : now.getD kk 0 = W.getD i 0 := (hL.is hnd (by omega) hk0 (hmaps kk hk0)).2 hf
    have := sel_stop (G := G) D few inn wrong (swaps + 1) ((now.set kk (now.getD i 0)).set i (W.getD i 0)) hn9 (i := i) (kk := kk + 1) (by omega) (by simp [hl]) (.inl (by rw [getD_setI _ i i _ (by simp; omega), if_pos rfl])) hN k (by omega)
    rw [laws_FnSwapped.l4, if_pos (by omega), if_pos (by omega), if_pos (by omega), if_pos (by omega), laws_FnSwapped.j8, if_pos (by rw [rd_nat, rd_nat]; simpa using hne), if_pos (by omega), if_pos (by omega), if_pos (by omega), if_pos (by omega), if_pos (by rw [rd_nat, rd_nat, he]), if_pos (by omega), rd_nat, rd_nat, Int.toNat_natCast, Int.toNat_natCast, w64 (n := swaps + 1) (by omega) (by omega), w64 (n := (kk : Int) + 1) (by omega) (by omega), show (kk : Int) + 1 = ((kk + 1 : Nat) : Int) by omega]
    exact this
  | succ d ih =>
    intro kk hkk hik k hk
    obtain ⟨k, rfl⟩ : ∃ k', k = k' + 2 := ⟨k - 2, by omega⟩
    have hne2 : now.getD kk 0 ≠ W.getD i 0 := fun e => by
      have h1 := (hL.is hnd (by omega) (by omega) (hmaps kk (by omega))).1 e
      have := hinj kk k0 (by omega) hk0 (by rw [h1, hf])
      omega
    rw [laws_FnSwapped.l4, if_pos (by omega), if_pos (by omega), if_pos (by omega), if_pos (by omega), laws_FnSwapped.j8, if_pos (by rw [rd_nat, rd_nat]; simpa using hne), if_pos (by omega), if_pos (by omega), if_pos (by omega), if_pos (by omega), if_neg (by rw [rd_nat, rd_nat]; exact hne2), w64 (n := (kk : Int) + 1) (by omega) (by omega), show (kk : Int) + 1 = ((kk + 1 : Nat) : Int) by omega]
    exact ih (kk + 1) (by omega) (by omega) k (by omega)
/-- How many lie wrong from place i on. -/
def wrongs (W G : List Int) (i s : Nat) : Nat := ((List.range' i s).filter fun j => !fixB W G j).length
theorem wrongs_succ (i s : Nat) : wrongs W G i (s + 1) = (if fixB W G i = true then 0 else 1) + wrongs W G (i + 1) s := by
  unfold wrongs
  rw [List.range'_succ, List.filter_cons]
  cases h : fixB W G i <;> simp <;> omega
/-- The outer way. -/
theorem sel_all (hn9 : W.length ≤ 9) (hnd : W.Nodup) (hlG : G.length = W.length) (D : List (List Int)) (hD : D.length ≤ 100) (few inn : Nat) (hfew : few + D.length = inn) (hin : inn ≤ 100) :
    ∀ (s i : Nat) (now : List Int) (f : Nat → Nat) (C : List (List Nat)) (wrong swaps : Nat), i + s = W.length → Lies W now f → Cyc f W.length i C → swaps + wt C = few → wrong + wrongs W G i s = inn →
      ∀ k, 40 * s + 5 ≤ k → laws_FnSwapped.l3 k (W.length : Int) W G D (few : Int) (inn : Int) (wrong : Int) now (swaps : Int) (i : Int) = some true := by
  intro s
  induction s with
  | zero =>
    intro i now f C wrong swaps hi hL hC hsw hwr k hk
    obtain ⟨k, rfl⟩ : ∃ k', k = k' + 1 := ⟨k - 1, by omega⟩
    obtain rfl : i = W.length := by omega
    have hw0 := hC.done
    have hz : wrongs W G W.length 0 = 0 := rfl
    rw [laws_FnSwapped.l3, if_neg (by omega), if_pos (by omega), if_pos (by omega), w64 (n := (inn : Int) - (D.length : Int)) (by omega) (by omega)]
    congr 1
    rw [beq_iff_eq]
    omega
  | succ s ih =>
    intro i now f C wrong swaps hi hL hC hsw hwr k hk
    obtain ⟨k, rfl⟩ : ∃ k', k = k' + 2 := ⟨k - 2, by omega⟩
    rw [wrongs_succ] at hwr
    have hiW : i < W.length := by omega
    have step : ∀ wrong' : Nat, wrong' + wrongs W G (i + 1) s = inn → laws_FnSwapped.l4 k (W.length : Int) W G D (few : Int) (inn : Int) (wrong' : Int) now (swaps : Int) (i : Int) (wrap64 ((i : Int) + 1)) = some true := by
      intro wrong' hw'
      rw [w64 (n := (i : Int) + 1) (by omega) (by omega), show (i : Int) + 1 = ((i + 1 : Nat) : Int) by omega]
      by_cases hf : f i = i
      · refine sel_stop D few inn wrong' swaps now hn9 hiW hL.1 (.inl ((hL.is hnd hiW hiW (hC.maps i hiW)).2 hf)) (K := 40 * s + 5) (fun k' hk' => ?_) k (by omega)
        exact ih (i + 1) now f C wrong' swaps (by omega) hL (hC.still hf) hsw hw' k' hk'
      · obtain ⟨k0, C', g1, g2, g3, g4, g5⟩ := hC.swap hiW hf
        refine sel_go hn9 hnd D few inn wrong' swaps (by omega) (by omega) hL hC.maps hC.inj g1 g2 g3 hf (K := 40 * s + 5) (fun k' hk' => ?_) (k0 - (i + 1)) (i + 1) (by omega) (by omega) k (by omega)
        have := ih (i + 1) _ (swp f i k0) C' wrong' (swaps + 1) (by omega) (hL.swap hiW g2 (by omega)) g4 (by omega) hw' k' hk'
        rw [Int.natCast_add] at this
        exact this
    rw [laws_FnSwapped.l3, if_pos (by omega), if_pos (by omega), if_pos (by omega), if_pos (by omega), rd_nat, rd_nat]
    by_cases hq : W.getD i 0 = G.getD i 0
    · rw [if_pos hq.symm, laws_FnSwapped.j6]
      rw [if_pos (show fixB W G i = true from decide_eq_true hq)] at hwr
      exact step wrong (by omega)
    · rw [if_neg (fun e => hq e.symm), laws_FnSwapped.j6]
      rw [if_neg (show ¬ fixB W G i = true from fun e => hq (of_decide_eq_true e))] at hwr
      rw [w64 (n := (wrong : Int) + 1) (by omega) (by omega), show (wrong : Int) + 1 = ((wrong + 1 : Nat) : Int) by omega]
      exact step (wrong + 1) (by omega)
/-- One ring, looked at from place i on. -/
theorem ring_way (hn9 : W.length ≤ 9) (hw : Sw W G) (out : List (List Nat)) (hD : out.length ≤ 100) (few : Int) (inn : Nat) (hin : inn ≤ 1000) (p : Nat) (hp : p < out.length) (hr : Ring (nx W G) (out.getD p [])) (hlen : (out.getD p []).length ≤ 20) (hmem : ∀ x ∈ out.getD p [], (out.getD p []).headD 0 ≤ x ∧ x < W.length) {K : Nat}
    (hN : ∀ k, K ≤ k → laws_FnSwapped.l1 k (W.length : Int) W G (out.map castL) few ((inn + (out.getD p []).length : Nat) : Int) ((p + 1 : Nat) : Int) = some true) :
    ∀ (s i : Nat), i + s = (out.getD p []).length → ∀ k, K + s + 1 ≤ k → laws_FnSwapped.l2 k (W.length : Int) W G (out.map castL) few (inn : Int) (p : Int) (i : Int) = some true := by
  have hrd : rd_L2 (out.map castL) (p : Int) = castL (out.getD p []) := by rw [rdL_nat, mapc_at]
  have hl : ((castL (out.getD p [])).length : Int) = ((out.getD p []).length : Int) := by rw [castL_len]
  have hDl : ((out.map castL).length : Int) = (out.length : Int) := by rw [List.length_map]
  have hlG : G.length = W.length := hw.len
  have h1 : 1 ≤ (out.getD p []).length := by
    cases hc : out.getD p [] with
    | nil => rw [hc] at hr; exact absurd hr (by simp [Ring])
    | cons a r => simp
  intro s
  induction s with
  | zero =>
    intro i hi k hk
    obtain ⟨k, rfl⟩ : ∃ k', k = k' + 1 := ⟨k - 1, by omega⟩
    have := hN k (by omega)
    rw [laws_FnSwapped.l2, if_pos (by omega), if_pos (by omega), hrd, hl, if_neg (by omega), w64 (n := (inn : Int) + ((out.getD p []).length : Int)) (by omega) (by omega), w64 (n := (p : Int) + 1) (by omega) (by omega)]
    rw [Int.natCast_add, Int.natCast_add] at this
    exact this
  | succ s ih =>
    intro i hi k hk
    obtain ⟨k, rfl⟩ : ∃ k', k = k' + 1 := ⟨k - 1, by omega⟩
    have hil : i < (out.getD p []).length := by omega
    have hnl : (i + 1) % (out.getD p []).length < (out.getD p []).length := Nat.mod_lt _ (by omega)
    have hm : Int.tmod (wrap64 ((i : Int) + 1)) ((out.getD p []).length : Int) = (((i + 1) % (out.getD p []).length : Nat) : Int) := by
      rw [w64 (n := (i : Int) + 1) (by omega) (by omega), Int.tmod_eq_emod_of_nonneg (by omega), show (i : Int) + 1 = ((i + 1 : Nat) : Int) by omega, Int.natCast_emod]
    have m1 := hmem _ (getD_memL hil)
    have m2 := hmem _ (getD_memL hnl)
    have hgo := ring_at hr i hil
    have hx : rd (castL (out.getD p [])) (i : Int) = (((out.getD p []).getD i 0 : Nat) : Int) := by rw [rd_nat, castL_at]
    have hy : rd (castL (out.getD p [])) (((i + 1) % (out.getD p []).length : Nat) : Int) = (((out.getD p []).getD ((i + 1) % (out.getD p []).length) 0 : Nat) : Int) := by rw [rd_nat, castL_at]
    have hz : rd (castL (out.getD p [])) 0 = (((out.getD p []).headD 0 : Nat) : Int) := by
      have := castL_at (out.getD p []) 0
      rw [show (0 : Int) = ((0 : Nat) : Int) from rfl, rd_nat, this]
      cases out.getD p [] <;> rfl
    have hGW : G.getD ((out.getD p []).getD i 0) 0 = W.getD ((out.getD p []).getD ((i + 1) % (out.getD p []).length) 0) 0 := by
      rw [← hgo]
      exact (hw.nx_spec m1.2).2.symm
    have := ih (i + 1) (by omega) k (by omega)
    obtain ⟨m, hmE⟩ : ∃ m, (i + 1) % (out.getD p []).length = m := ⟨_, rfl⟩
    rw [hmE] at hnl hm m2 hy hGW
    obtain ⟨x, hxE⟩ : ∃ x, (out.getD p []).getD i 0 = x := ⟨_, rfl⟩
    rw [hxE] at hx hGW m1
    obtain ⟨y, hyE⟩ : ∃ y, (out.getD p []).getD m 0 = y := ⟨_, rfl⟩
    rw [hyE] at hy hGW m2
    obtain ⟨z, hzE⟩ : ∃ z, (out.getD p []).headD 0 = z := ⟨_, rfl⟩
    rw [hzE] at hz m1
    have c1 : (i : Int) < ((castL (out.getD p [])).length : Int) := by rw [hl]; omega
    have c2 : ¬ ((castL (out.getD p [])).length : Int) = 0 := by rw [hl]; omega
    have c3 : (m : Int) < ((castL (out.getD p [])).length : Int) := by rw [hl]; omega
    have c4 : (0 : Int) < ((castL (out.getD p [])).length : Int) := by rw [hl]; omega
    rw [← hl] at hm
    have d1 : (0 : Int) ≤ (m : Int) := by omega
    have d2 : (0 : Int) ≤ (x : Int) := by omega
    have d3 : (x : Int) < (G.length : Int) := by omega
    have d4 : (0 : Int) ≤ (y : Int) := by omega
    have d5 : (y : Int) < (W.length : Int) := by omega
    have d6 : ¬ (x : Int) < (z : Int) := by omega
    have d7 : (p : Int) < ((out.map castL).length : Int) := by omega
    have d8 : (0 : Int) ≤ (p : Int) := by omega
    have d9 : (0 : Int) ≤ (i : Int) := by omega
    have e1 : wrap64 ((i : Int) + 1) = ((i + 1 : Nat) : Int) := by rw [w64 (n := (i : Int) + 1) (by omega) (by omega)]; omega
    rw [laws_FnSwapped.l2, if_pos d8, if_pos d7, hrd, if_pos c1, if_neg c2, hm, if_pos d1, if_pos c3, if_pos d9, hx, hy, hz, if_pos d2, if_pos d3, if_pos d4, if_pos d5, rd_nat, rd_nat, if_pos hGW, if_pos c4, if_neg d6, e1]
    exact this
/-- All rings. -/
theorem rings_way (hn9 : W.length ≤ 9) (hw : Sw W G) {met : List Bool} (out : List (List Nat)) (h : Rs W G W.length met out) (hD : out.length ≤ 100) (hlen : ∀ c ∈ out, c.length ≤ 20) (hsum : ∀ p, p ≤ out.length → sumTo out p ≤ 100) (few : Nat) (hfew : few + out.length = out.flatten.length) (hwt : wt out = few) :
    ∀ (s p : Nat), p + s = out.length → ∀ k, 25 * s + 500 ≤ k → laws_FnSwapped.l1 k (W.length : Int) W G (out.map castL) (few : Int) (sumTo out p : Int) (p : Int) = some true := by
  have hDl : ((out.map castL).length : Int) = (out.length : Int) := by rw [List.length_map]
  have hlG : G.length = W.length := hw.len
  intro s
  induction s with
  | zero =>
    intro p hp k hk
    obtain ⟨k, rfl⟩ : ∃ k', k = k' + 1 := ⟨k - 1, by omega⟩
    obtain rfl : p = out.length := by omega
    have hs := hsum out.length (Nat.le_refl _)
    have hwr := h.wrongs hw
    rw [sumTo_all] at hs ⊢
    have := sel_all hn9 hw.wn hlG (out.map castL) (by simpa using hD) few out.flatten.length (by simpa using hfew) hs W.length 0 G (nx W G) out 0 0 (by omega) ⟨hlG, fun j hj => ((hw.nx_spec hj).2).symm⟩ (h.cyc hw) (by omega) (by unfold wrongs; rw [← List.range_eq_range']; omega) k (by omega)
    rw [laws_FnSwapped.l1, if_neg (by omega), Option.bind_some, if_pos (by simp only [List.length_nil]; omega), List.nil_append]
    exact this
  | succ s ih =>
    intro p hp k hk
    obtain ⟨k, rfl⟩ : ∃ k', k = k' + 2 := ⟨k - 2, by omega⟩
    have hpo : p < out.length := by omega
    obtain ⟨q1, q2, q3, q4⟩ := h.ring _ (getD_memN hpo)
    have hl20 := hlen _ (getD_memN hpo)
    have hrd : rd_L2 (out.map castL) (p : Int) = castL (out.getD p []) := by rw [rdL_nat, mapc_at]
    have hz : ∀ q : Nat, rd (castL (out.getD q [])) 0 = (((out.getD q []).headD 0 : Nat) : Int) := fun q => by
      have := castL_at (out.getD q []) 0
      rw [show (0 : Int) = ((0 : Nat) : Int) from rfl, rd_nat, this]
      cases out.getD q [] <;> rfl
    have hway := ring_way hn9 hw out hD few (sumTo out p) (by have := hsum p (by omega); omega) p hpo q1 hl20 q4 (K := 25 * s + 500) (fun k' hk' => by
      rw [← sumTo_succ out p hpo]
      exact ih (p + 1) (by omega) k' hk') (out.getD p []).length 0 (by omega) k (by omega)
    have hj : laws_FnSwapped.j3 (k + 1) (W.length : Int) W G (out.map castL) (few : Int) (sumTo out p : Int) (p : Int) false = some true := by
      rw [laws_FnSwapped.j3, if_neg (by decide)]
      exact hway
    rw [laws_FnSwapped.l1, if_pos (by omega), if_pos (by omega), hrd, castL_len, if_neg (by omega)]
    by_cases h0 : (p : Int) > 0
    · obtain ⟨p', rfl⟩ : ∃ p', p = p' + 1 := ⟨p - 1, by omega⟩
      have hw1 : wrap64 (((p' + 1 : Nat) : Int) - 1) = (p' : Int) := by rw [w64 (by omega) (by omega)]; omega
      have hrd' : rd_L2 (out.map castL) (p' : Int) = castL (out.getD p' []) := by rw [rdL_nat, mapc_at]
      have hp' : p' < out.length := by omega
      have hl' := (h.ring _ (getD_memN hp')).2.1
      have hris : (out.getD p' []).headD 0 < (out.getD (p' + 1) []).headD 0 := by
        have := List.pairwise_iff_getElem.1 h.rise p' (p' + 1) (by simpa using hp') (by simpa using hpo) (by omega)
        rw [List.getElem_map, List.getElem_map] at this
        rw [List.getD_eq_getElem?_getD, List.getD_eq_getElem?_getD, List.getElem?_eq_getElem hp', List.getElem?_eq_getElem hpo]
        exact this
      rw [if_pos h0, if_pos (by omega), hw1, if_pos (by omega), if_pos (by omega), hrd', castL_len, if_pos (by omega), hz, hz]
      rw [show decide ((((out.getD (p' + 1) []).headD 0 : Nat) : Int) ≤ (((out.getD p' []).headD 0 : Nat) : Int)) = false from decide_eq_false (by omega)]
      exact hj
    · rw [if_neg h0]
      exact hj
end
theorem same_loop (l : List Int) (hl : l.length ≤ 1000) (s : Nat) : ∀ (i k : Nat), i + s = l.length → s < k → spec_l00Same.l0 k l l (i : Int) = some true := by
  induction s with
  | zero =>
    intro i k hi hk
    obtain ⟨k, rfl⟩ : ∃ k', k = k' + 1 := ⟨k - 1, by omega⟩
    rw [spec_l00Same.l0, if_neg (by omega)]
  | succ s ih =>
    intro i k hi hk
    obtain ⟨k, rfl⟩ : ∃ k', k = k' + 1 := ⟨k - 1, by omega⟩
    rw [spec_l00Same.l0, if_pos (by omega), if_pos (by omega), if_pos (by omega), if_pos rfl, w64 (n := (i : Int) + 1) (by omega) (by omega), show (i : Int) + 1 = ((i + 1 : Nat) : Int) by omega]
    exact ih (i + 1) k (by omega) (by omega)
theorem same_is (l : List Int) (hl : l.length ≤ 1000) (k : Nat) (hk : l.length < k) : spec_l00Same.f k l l = some true := by
  unfold spec_l00Same.f
  rw [if_pos rfl]
  exact same_loop l hl l.length 0 k (by omega) (by omega)
theorem sameL_loop (ls : List (List Int)) (hn : ls.length ≤ 100) (hr : ∀ r ∈ ls, r.length ≤ 100) (s : Nat) : ∀ (i k : Nat), i + s = ls.length → s + 102 < k → spec_A2SameLists.l0 k ls ls (i : Int) = some true := by
  induction s with
  | zero =>
    intro i k hi hk
    obtain ⟨k, rfl⟩ : ∃ k', k = k' + 1 := ⟨k - 1, by omega⟩
    rw [spec_A2SameLists.l0, if_neg (by omega)]
  | succ s ih =>
    intro i k hi hk
    obtain ⟨k, rfl⟩ : ∃ k', k = k' + 1 := ⟨k - 1, by omega⟩
    have hm : (ls.getD i []).length ≤ 100 := by
      have hil : i < ls.length := by omega
      rw [List.getD_eq_getElem?_getD, List.getElem?_eq_getElem hil]
      exact hr _ (List.getElem_mem hil)
    rw [spec_A2SameLists.l0, if_pos (by omega), if_pos (by omega), if_pos (by omega), rdL_nat, same_is _ (by omega) k (by omega), Option.bind_some, if_pos rfl, w64 (n := (i : Int) + 1) (by omega) (by omega), show (i : Int) + 1 = ((i + 1 : Nat) : Int) by omega]
    exact ih (i + 1) k (by omega) (by omega)
theorem sameL_is (ls : List (List Int)) (hn : ls.length ≤ 100) (hr : ∀ r ∈ ls, r.length ≤ 100) (k : Nat) (hk : 300 ≤ k) : spec_A2SameLists.f k ls ls = some true := by
  unfold spec_A2SameLists.f
  rw [if_pos rfl]
  exact sameL_loop ls hn hr ls.length 0 k (by omega) (by omega)
/-- What is wanted, what has come. -/
def wants (n : Nat) : List Int := (List.range n).map fun (j : Nat) => 7 * (j : Int) + 3
def comes (o : List Int) : List Int := o.map fun x => 7 * x + 3
theorem wants_len (n : Nat) : (wants n).length = n := by simp [wants]
theorem comes_len (o : List Int) : (comes o).length = o.length := by simp [comes]
theorem nodup_map7 (l : List Int) (h : l.Nodup) : (l.map fun x => 7 * x + 3).Nodup := by
  refine List.Pairwise.map _ (fun a b hab e => hab ?_) h
  have : (7 * a + 3 : Int) = 7 * b + 3 := e
  omega
theorem swapped_is {n : Nat} {o : List Int} (hn : n ≤ 8) (h : Mixed n o) : areSwB (wants n) (comes o) = true := by
  refine (areSw_iff _ _).2 ⟨by rw [wants_len]; omega, fun x hx => ?_, ?_, ?_⟩
  · obtain ⟨j, hj, rfl⟩ := List.mem_map.1 hx
    have := List.mem_range.1 hj
    unfold inB
    simp only [Bool.and_eq_true, decide_eq_true_eq]
    omega
  · refine List.Pairwise.map _ (fun a b hab e => hab ?_) List.nodup_range
    have : (7 * (a : Int) + 3 : Int) = 7 * (b : Int) + 3 := e
    omega
  · refine perm_of_sub _ _ (nodup_map7 o h.nod) (fun x hx => ?_) (by rw [wants_len, comes_len, h.len]; omega)
    obtain ⟨y, hy, rfl⟩ := List.mem_map.1 hx
    obtain ⟨y0, y1⟩ := h.mem y hy
    exact List.mem_map.2 ⟨y.toNat, List.mem_range.2 (by omega), by rw [Int.toNat_of_nonneg y0]⟩
theorem exR_pair {l m : List Int} (h : areSwB l m = true) : exR l m = (exS 0 (ringsI l m), 0) := by unfold exR; rw [if_pos h]
/-- Behind the lists. -/
theorem behind {n : Nat} {o : List Int} (hn : n ≤ 8) (h : Mixed n o) (k : Nat) (hk : 1200 ≤ k) : laws_FnSwapped.l0 k (n : Int) o (wants n) (comes o) (n : Int) = some true := by
  obtain ⟨k, rfl⟩ : ∃ k', k = k' + 2 := ⟨k - 2, by omega⟩
  have hS := swapped_is hn h
  have hw := Sw.of hS
  obtain ⟨met, out, hr, hR⟩ := rings_facts hS
  have hlW : (wants n).length = n := wants_len n
  have hlG : (comes o).length = n := by rw [comes_len, h.len]
  have hfl : out.flatten.length ≤ n := by
    have h1 := hR.wrongs hw
    have h2 := List.length_filter_le (fun i => !fixB (wants n) (comes o) i) (List.range (wants n).length)
    rw [List.length_range] at h2
    omega
  have hc20 : ∀ c ∈ out, 2 ≤ c.length ∧ c.length ≤ 20 := fun c hc => by
    refine ⟨(hR.ring c hc).2.1, ?_⟩
    obtain ⟨l1, l2, e⟩ := List.append_of_mem hc
    rw [e, List.flatten_append, List.flatten_cons, List.length_append, List.length_append] at hfl
    omega
  have hol : out.length ≤ 9 := by
    have := rings_len hS
    rw [hr, List.length_map] at this
    exact this
  obtain ⟨x1, x2⟩ := exS_is out 0 (by omega) (by omega) hc20
  have hst : ∀ p, p ≤ out.length → sumTo out p ≤ 100 := by
    have hmono : ∀ d p, p + d = out.length → sumTo out p ≤ out.flatten.length := by
      intro d
      induction d with
      | zero => intro p hp; rw [show p = out.length by omega, sumTo_all]; omega
      | succ d ih =>
        intro p hp
        have := ih (p + 1) (by omega)
        rw [sumTo_succ out p (by omega)] at this
        omega
    intro p hp
    have := hmono (out.length - p) p (by omega)
    omega
  have hway := rings_way (by omega) hw out hR (by omega) (fun c hc => (hc20 c hc).2) hst (wt out) x2 rfl out.length 0 (by omega) k (by omega)
  have hz : sumTo out 0 = 0 := by unfold sumTo; simp
  rw [hz, hlW] at hway
  have hfew : exS 0 (ringsI (wants n) (comes o)) = (wt out : Int) := by rw [hr, x1]; omega
  have hsR : swapsR (wants n) (comes o) = (out.map castL, 0) := by unfold swapsR; rw [if_pos hS, hr]
  have hI : impl_SwapsFor.f (wants n) (comes o) = some (out.map castL, 0) := by
    unfold impl_SwapsFor.f
    rw [if_pos ⟨by omega, by omega⟩, hsR]
  have hSp : spec_SwapsFor.f (k + 1) (wants n) (comes o) = some (out.map castL, 0) := by
    unfold spec_SwapsFor.f
    rw [sSwapped_is _ _ _ (by omega), Option.bind_some, if_pos hS, sRings_is hS _ (by omega), hr]
    rfl
  have hIE := iExchanges_is (wants n) (comes o) (by omega) (by omega) (k + 1) (by omega)
  have hSE := sExchanges_is (wants n) (comes o) (k + 1) (by omega)
  rw [exR_pair hS, hfew] at hIE hSE
  have hsame := sameL_is (out.map castL) (by rw [List.length_map]; omega) (fun r hr' => by
    obtain ⟨c, hc, rfl⟩ := List.mem_map.1 hr'
    have := (hc20 c hc).2
    rw [castL_len]
    omega) (k + 1) (by omega)
  rw [laws_FnSwapped.l0, if_neg (by omega), hI, Option.bind_some, hSp, Option.bind_some, hIE, Option.bind_some, hSE, Option.bind_some]
  simp only [if_true]
  rw [hsame, Option.bind_some, if_pos rfl, laws_FnSwapped.j1, if_neg (by simp)]
  exact hway
/-- The lists are made. -/
theorem made {n : Nat} {o : List Int} (hn : n ≤ 8) (h : Mixed n o) (s : Nat) : ∀ (i k : Nat), i + s = n → 1200 + s ≤ k → laws_FnSwapped.l0 k (n : Int) o (wants i) (comes (o.take i)) (i : Int) = some true := by
  induction s with
  | zero =>
    intro i k hi hk
    obtain rfl : i = n := by omega
    have := behind hn h k (by omega)
    rw [List.take_of_length_le (by rw [h.len]; omega)]
    exact this
  | succ s ih =>
    intro i k hi hk
    obtain ⟨k, rfl⟩ : ∃ k', k = k' + 1 := ⟨k - 1, by omega⟩
    have hol := h.len
    have hil : i < o.length := by omega
    obtain ⟨x, hx⟩ : ∃ x, o.getD i 0 = x := ⟨_, rfl⟩
    have hx' := hx
    rw [List.getD_eq_getElem?_getD, List.getElem?_eq_getElem hil, Option.getD_some] at hx'
    have hxm := h.mem x (by rw [← hx']; exact List.getElem_mem hil)
    have hlw := wants_len i
    have hlc : (comes (o.take i)).length = i := by rw [comes_len, List.length_take]; omega
    have hW : wants i ++ [7 * (i : Int) + 3] = wants (i + 1) := by unfold wants; rw [List.range_succ, List.map_append]; rfl
    have hG : comes (o.take i) ++ [7 * x + 3] = comes (o.take (i + 1)) := by
      unfold comes
      rw [List.take_add_one, List.getElem?_eq_getElem hil, List.map_append, hx']
      rfl
    have e1 : wrap64 (wrap64 (7 * (i : Int)) + 3) = 7 * (i : Int) + 3 := by rw [w64 (n := 7 * (i : Int)) (by omega) (by omega), w64 (n := 7 * (i : Int) + 3) (by omega) (by omega)]
    have e2 : wrap64 (wrap64 (7 * x) + 3) = 7 * x + 3 := by rw [w64 (n := 7 * x) (by omega) (by omega), w64 (n := 7 * x + 3) (by omega) (by omega)]
    rw [laws_FnSwapped.l0, if_pos (by omega), if_pos (by omega), if_pos (by omega), if_pos (by omega), if_pos (by omega), rd_nat, hx, e1, e2, hW, hG, w64 (n := (i : Int) + 1) (by omega) (by omega), show (i : Int) + 1 = ((i + 1 : Nat) : Int) by omega]
    exact ih (i + 1) k (by omega) (by omega)
theorem Pure.FnSwapped (y0 : List Int) (y1 : List Int) (w0 : (y0.length ≤ maxLen ∧ ∀ x ∈ y0, (Lit.int .u8 x).wf = true)) (w1 : (y1.length ≤ maxLen ∧ ∀ x ∈ y1, (Lit.int .u8 x).wf = true)) : ∃ k, laws_FnSwapped.f k y0 y1 = some true := by
  have byts : ∀ l : List Int, (∀ x ∈ l, (Lit.int .u8 x).wf = true) → Byts l := fun l hl x hx => by
    have := bounds_u8 (hl x hx)
    omega
  obtain ⟨b, hb, hb2⟩ := a2Long_is y0 y1
  refine ⟨2000, ?_⟩
  unfold laws_FnSwapped.f
  rw [hb, Option.bind_some]
  cases b with
  | true => rfl
  | false =>
    obtain ⟨n, hn, hna⟩ := a2At_is (byts y0 w0.2)
    obtain ⟨o, ho, hM⟩ := order_is (byts y1 w1.2) n hn
    have ho' : spec_A2Order.f 2000 y1 (n : Int) = some o := by
      have : ∀ d, spec_A2Order.f (n + 1 + d) y1 (n : Int) = some o := by
        intro d
        induction d with
        | zero => exact ho
        | succ d ih => exact spec_A2Order.mono _ _ _ _ ih
      have := this (2000 - (n + 1))
      rw [show n + 1 + (2000 - (n + 1)) = 2000 by omega] at this
      exact this
    rw [if_neg (by decide), hna, Option.bind_some, ho', Option.bind_some]
    exact made hn hM n 0 2000 (by omega) (by omega)
end Go.Proofs.Ytgjpnamckkedfaa.Q
