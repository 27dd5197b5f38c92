/- spec's pay over lists alone: it pays as impl does, voucher by voucher in the order in which they end. -/
import Derived.Test.YtennlgkacijnnaaOrd
import Derived.Test.YtennlgkacijnnaaSpec6V
import Derived.Test.YtennlgkacijnnaaQ6
set_option linter.unusedVariables false
set_option linter.unusedSimpArgs false
namespace Go.Proofs.Ytennlgkacijnnaa.Q
open Go.RowKit Go.Proofs.YtennlgkacijnnaaW.PrintWords Go.Proofs.YtennlgkacijnnaaW.PrintLast Go.Proofs.YtennlgkacijnnaaW.PrintMore Go.Proofs.Ytennlgkacijnnaa.Loops
def keyOf (l : List S87) (i : Nat) : Int := (l.getD i z87).f1
theorem keyOf_set (o : List S87) (i j : Nat) (a : Int) : keyOf (o.set i ⟨a, (o.getD i z87).f1⟩) j = keyOf o j := by
  unfold keyOf
  simp only [List.getD_eq_getElem?_getD, List.getElem?_set]
  by_cases e : i = j
  · subst e
    rw [if_pos rfl]
    by_cases h : i < o.length
    · rw [if_pos h, Option.getD_some]
    · rw [if_neg h, List.getElem?_eq_none (by omega)]
  · rw [if_neg e]
theorem payStep_key (day : Int) (s : List S87 × Int) (i j : Nat) : keyOf (payStep day s i).1 j = keyOf s.1 j := by
  unfold payStep
  split
  · exact keyOf_set _ _ _ _
  · rfl
theorem fold_filter (day : Int) (key : Nat → Int) : ∀ (L : List Nat) (s : List S87 × Int), (∀ j, keyOf s.1 j = key j) → L.foldl (payStep day) s = (L.filter fun i => decide (day ≤ key i)).foldl (payStep day) s
  | [], s, _ => rfl
  | i :: L, s, h => by
    rw [List.foldl_cons, List.filter_cons]
    by_cases hd : day ≤ key i
    · rw [if_pos (decide_eq_true hd), List.foldl_cons]
      exact fold_filter day key L _ (fun j => by rw [payStep_key]; exact h j)
    · have e : payStep day s i = s := by
        unfold payStep
        rw [if_neg (by have := h i; unfold keyOf at this; rw [this]; exact hd)]
      rw [if_neg (by simpa using hd), e]
      exact fold_filter day key L s h
theorem set_same (o : List S87) (i : Nat) : o.set i (o.getD i z87) = o := by
  apply List.ext_getElem?
  intro j
  rw [List.getElem?_set]
  by_cases e : i = j
  · subst e
    rw [if_pos rfl]
    by_cases h : i < o.length
    · rw [if_pos h, List.getD_eq_getElem?_getD, List.getElem?_eq_getElem h]
      rfl
    · rw [if_neg h, List.getElem?_eq_none (by omega)]
  · rw [if_neg e]
theorem fold_zero (day : Int) (n : Nat) : ∀ (L : List Nat) (s : List S87 × Int), inPay n s → s.2 = 0 → (∀ i ∈ L, i < n) → L.foldl (payStep day) s = s
  | [], s, _, _, _ => rfl
  | i :: L, (o, am), h, h0, hL => by
    have e : payStep day (o, am) i = (o, am) := by
      have hg := inPay_get h i (hL i (List.mem_cons_self))
      simp only at h0 hg
      subst h0
      unfold payStep
      split
      · have hm : min (o.getD i z87).f0 0 = 0 := by omega
        simp only [hm, Int.sub_zero]
        rw [show (⟨(o.getD i z87).f0, (o.getD i z87).f1⟩ : S87) = o.getD i z87 from rfl, set_same]
      · rfl
    rw [List.foldl_cons, e]
    exact fold_zero day n L (o, am) h h0 (fun j hj => hL j (List.mem_cons_of_mem _ hj))
/-- A voucher that may still pay. -/
def candB (dn : List Bool) (key : Nat → Int) (day : Int) (c : Nat) : Prop := dn.getD c false = false ∧ day ≤ key c
/-- What the scan has found before place i. -/
def bestAt (dn : List Bool) (key : Nat → Int) (day : Int) (b : Int) (i : Nat) : Prop :=
  (b = -1 ∧ ∀ c, c < i → ¬ candB dn key day c) ∨ (∃ m : Nat, b = m ∧ m < i ∧ candB dn key day m ∧ ∀ c, c < i → candB dn key day c → c ≠ m → lexB key m c)
theorem best_skip {dn : List Bool} {key : Nat → Int} {day b : Int} {i : Nat} (h : bestAt dn key day b i) (hc : ¬ candB dn key day i) : bestAt dn key day b (i + 1) := by
  have hs : ∀ c, c < i + 1 → candB dn key day c → c < i := fun c h1 h2 => by
    rcases Nat.lt_or_ge c i with h3 | h3
    · exact h3
    · have : c = i := by omega
      subst this
      exact absurd h2 hc
  rcases h with ⟨h1, h2⟩ | ⟨m, h1, h2, h3, h4⟩
  · exact .inl ⟨h1, fun c hc1 hc2 => h2 c (hs c hc1 hc2) hc2⟩
  · exact .inr ⟨m, h1, by omega, h3, fun c hc1 hc2 hc3 => h4 c (hs c hc1 hc2) hc2 hc3⟩
theorem best_first {dn : List Bool} {key : Nat → Int} {day : Int} {i : Nat} (h : bestAt dn key day (-1) i) (hc : candB dn key day i) : bestAt dn key day i (i + 1) := by
  rcases h with ⟨h1, h2⟩ | ⟨m, h1, h2, h3, h4⟩
  · refine .inr ⟨i, rfl, by omega, hc, fun c hc1 hc2 hc3 => ?_⟩
    exact absurd hc2 (h2 c (by omega))
  · omega
theorem best_less {dn : List Bool} {key : Nat → Int} {day : Int} {i m : Nat} (h : bestAt dn key day m i) (hc : candB dn key day i) (hl : key i < key m) : bestAt dn key day i (i + 1) := by
  rcases h with ⟨h1, h2⟩ | ⟨m', h1, h2, h3, h4⟩
  · omega
  · have : m = m' := by omega
    subst this
    refine .inr ⟨i, rfl, by omega, hc, fun c hc1 hc2 hc3 => ?_⟩
    by_cases e : c = m
    · subst e
      exact .inl hl
    · have := h4 c (by omega) hc2 e
      unfold lexB at this ⊢
      omega
theorem best_more {dn : List Bool} {key : Nat → Int} {day : Int} {i m : Nat} (h : bestAt dn key day m i) (hl : ¬ key i < key m) : bestAt dn key day m (i + 1) := by
  rcases h with ⟨h1, h2⟩ | ⟨m', h1, h2, h3, h4⟩
  · omega
  · have : m = m' := by omega
    subst this
    refine .inr ⟨m, rfl, by omega, h3, fun c hc1 hc2 hc3 => ?_⟩
    by_cases e : c = i
    · subst e
      unfold lexB
      omega
    · exact h4 c (by omega) hc2 hc3
theorem best_in {dn : List Bool} {key : Nat → Int} {day b : Int} {i : Nat} (h : bestAt dn key day b i) : b = -1 ∨ ∃ m : Nat, b = m ∧ m < i := by
  rcases h with ⟨h1, h2⟩ | ⟨m, h1, h2, h3, h4⟩
  · exact .inl h1
  · exact .inr ⟨m, h1, h2⟩
theorem pick (day am : Int) (o : List S87) (dn : List Bool) (hl : dn.length = o.length) (hn : o.length ≤ 1048576) (hk : ∀ j, j < o.length → -32768 ≤ keyOf o j ∧ keyOf o j ≤ 32767) :
    ∀ (m i : Nat) (b : Int), o.length - i = m → i ≤ o.length → bestAt dn (keyOf o) day b i → ∃ b', bestAt dn (keyOf o) day b' o.length ∧ ∀ k, spec_l06Pay.l1 (k + m + 1) day am o dn b i = spec_l06Pay.l1 (k + 1) day am o dn b' o.length := by
  intro m
  induction m with
  | zero =>
    intro i b hm hi hb
    have : i = o.length := by omega
    subst this
    exact ⟨b, hb, fun k => rfl⟩
  | succ m ih =>
    intro i b hm hi hb
    have hi' : i < o.length := by omega
    have hr : ∀ j : Nat, (rd_T87 o (j : Int)).f1 = keyOf o j := fun j => by simp only [rd_T87, Int.toNat_natCast]; rfl
    have hdn : rdOf false dn (i : Int) = dn.getD i false := by unfold rdOf; rw [Int.toNat_natCast]
    have hw : wrap64 ((i : Int) + 1) = ((i + 1 : Nat) : Int) := by rw [wrap_mid (by omega) (by omega)]; omega
    have hkw : wrap64 (keyOf o i) = keyOf o i := by have := hk i hi'; exact wrap_mid (by omega) (by omega)
    have step : ∀ k, spec_l06Pay.l1 (k + (m + 1) + 1) day am o dn b i = spec_l06Pay.l1 (k + m + 1) day am o dn (if dn.getD i false = true then b else if keyOf o i ≥ day then (if b < 0 then (i : Int) else if keyOf o i < keyOf o b.toNat then (i : Int) else b) else b) ((i + 1 : Nat) : Int) := by
      intro k
      rw [show k + (m + 1) + 1 = (k + m + 1) + 1 by omega, spec_l06Pay.l1, if_pos (by omega), if_pos (by omega), if_pos (by omega), hdn, hw, hr i, hkw]
      by_cases h1 : dn.getD i false = true
      · rw [if_pos h1, if_pos h1]
      · rw [if_neg h1, if_neg h1]
        by_cases h2 : keyOf o i ≥ day
        · rw [if_pos h2, if_pos h2]
          rcases best_in hb with rfl | ⟨q, rfl, hq⟩
          · rw [if_pos (by omega), if_pos (by omega)]
          · rw [if_neg (show ¬ (q : Int) < 0 by omega), if_neg (show ¬ (q : Int) < 0 by omega), if_pos (show 0 ≤ (q : Int) by omega), if_pos (show (q : Int) < (o.length : Int) by omega), hr q, Int.toNat_natCast]
            by_cases h3 : keyOf o i < keyOf o q
            · rw [if_pos h3, if_pos h3]
            · rw [if_neg h3, if_neg h3]
        · rw [if_neg h2, if_neg h2]
    have hnew : bestAt dn (keyOf o) day (if dn.getD i false = true then b else if keyOf o i ≥ day then (if b < 0 then (i : Int) else if keyOf o i < keyOf o b.toNat then (i : Int) else b) else b) (i + 1) := by
      by_cases h1 : dn.getD i false = true
      · rw [if_pos h1]
        exact best_skip hb (fun h => by rw [h.1] at h1; cases h1)
      · rw [if_neg h1]
        by_cases h2 : keyOf o i ≥ day
        · rw [if_pos h2]
          have hc : candB dn (keyOf o) day i := ⟨by simpa using h1, h2⟩
          rcases best_in hb with rfl | ⟨q, rfl, hq⟩
          · rw [if_pos (by omega)]
            exact best_first hb hc
          · rw [if_neg (by omega), Int.toNat_natCast]
            by_cases h3 : keyOf o i < keyOf o q
            · rw [if_pos h3]
              exact best_less hb hc h3
            · rw [if_neg h3]
              exact best_more hb h3
        · rw [if_neg h2]
          exact best_skip hb (fun h => h2 h.2)
    obtain ⟨b', hb', he⟩ := ih (i + 1) _ (by omega) (by omega) hnew
    exact ⟨b', hb', fun k => by rw [step k, he k]⟩
theorem specPay (day : Int) (key : Nat → Int) : ∀ (suf : List Nat) (o : List S87) (am : Int) (dn : List Bool) (K : Nat), inPay o.length (o, am) → o.length ≤ 1048576 → dn.length = o.length → (∀ j, keyOf o j = key j) → suf.Pairwise (lexB key) →
    (∀ c, c ∈ suf ↔ c < o.length ∧ candB dn key day c) → (suf.length + 1) * (o.length + 3) ≤ K → spec_l06Pay.l0 K day am o dn = some (suf.foldl (payStep day) (o, am)) := by
  intro suf
  induction suf with
  | nil =>
    intro o am dn K hin hn hl hkey hp hmem hK
    obtain ⟨k, rfl⟩ : ∃ k, K = k + o.length + 1 + 1 := ⟨K - o.length - 2, by simp at hK; omega⟩
    rw [spec_l06Pay.l0]
    by_cases ham : am > 0
    · rw [if_pos ham]
      have hkb : ∀ j, j < o.length → -32768 ≤ keyOf o j ∧ keyOf o j ≤ 32767 := fun j hj => by have := inPay_get hin j hj; simp only at this; unfold keyOf; omega
      obtain ⟨b', hb', he⟩ := pick day am o dn hl hn hkb o.length 0 (-1) (by omega) (by omega) (.inl ⟨rfl, fun c hc => absurd hc (by omega)⟩)
      have he := he k
      rw [show ((0 : Nat) : Int) = 0 from rfl] at he
      rw [he, spec_l06Pay.l1, if_neg (by omega)]
      rcases hb' with ⟨rfl, hno⟩ | ⟨m, rfl, hm, hc, hall⟩
      · rw [if_pos (by omega)]
        rfl
      · have hc' : candB dn key day m := ⟨hc.1, by rw [← hkey m]; exact hc.2⟩
        have := (hmem m).2 ⟨hm, hc'⟩
        cases this
    · rw [if_neg ham]
      rfl
  | cons h t ih =>
    intro o am dn K hin hn hl hkey hp hmem hK
    have hK' : (t.length + 1) * (o.length + 3) + (o.length + 3) ≤ K := by
      rw [List.length_cons, Nat.add_mul (t.length + 1) 1, Nat.one_mul] at hK
      exact hK
    obtain ⟨k, rfl⟩ : ∃ k, K = k + o.length + 1 + 1 := ⟨K - o.length - 2, by omega⟩
    rw [spec_l06Pay.l0]
    by_cases ham : am > 0
    · rw [if_pos ham]
      have hkb : ∀ j, j < o.length → -32768 ≤ keyOf o j ∧ keyOf o j ≤ 32767 := fun j hj => by have := inPay_get hin j hj; simp only at this; unfold keyOf; omega
      obtain ⟨b', hb', he⟩ := pick day am o dn hl hn hkb o.length 0 (-1) (by omega) (by omega) (.inl ⟨rfl, fun c hc => absurd hc (by omega)⟩)
      have he := he k
      rw [show ((0 : Nat) : Int) = 0 from rfl] at he
      rw [he, spec_l06Pay.l1, if_neg (by omega)]
      have hkf : keyOf o = key := funext hkey
      rw [hkf] at hb'
      rcases hb' with ⟨rfl, hno⟩ | ⟨m, rfl, hm, hc, hall⟩
      · have := (hmem h).1 List.mem_cons_self
        exact absurd this.2 (hno h this.1)
      · rw [if_neg (by omega), if_pos (by omega), if_pos (by omega), if_pos (by omega)]
        obtain ⟨hp1, hp2⟩ := List.pairwise_cons.1 hp
        have hh : h = m := by
          by_cases e : h = m
          · exact e
          · have h1 := (hmem m).2 ⟨hm, hc⟩
            rcases List.mem_cons.1 h1 with h2 | h2
            · exact absurd h2.symm e
            · have h3 := (hmem h).1 List.mem_cons_self
              exact absurd (hall h h3.1 h3.2 e) (lexB_asym (hp1 m h2))
        subst hh
        have hg := inPay_get hin h hm
        have h2a : am ≤ 1000000 := hin.2.2.1
        have hrd : rd_T87 o (h : Int) = o.getD h z87 := by simp only [rd_T87, Int.toNat_natCast]
        have hstep : payStep day (o, am) h = (o.set h ⟨(o.getD h z87).f0 - min (o.getD h z87).f0 am, (o.getD h z87).f1⟩, am - min (o.getD h z87).f0 am) := by
          unfold payStep
          rw [if_pos (by have h5 := hc.2; rw [← hkey h] at h5; exact h5)]
        have hin2 : inPay o.length (payStep day (o, am) h) := inPay_step hin day h hm
        rw [List.foldl_cons]
        rw [hstep] at hin2 ⊢
        rw [hrd]
        simp only at hg
        have hw0 : wrap64 (o.getD h z87).f0 = (o.getD h z87).f0 := wrap_mid (by omega) (by omega)
        have hmin : spec_l00Min.f am (o.getD h z87).f0 = some (min (o.getD h z87).f0 am) := by
          unfold spec_l00Min.f
          split <;> (congr 1; omega)
        rw [hw0, hmin, Option.bind_some]
        have e1 : wrap64 (am - min (o.getD h z87).f0 am) = am - min (o.getD h z87).f0 am := wrap_mid (by omega) (by omega)
        have e2 : wrap32 (min (o.getD h z87).f0 am) = min (o.getD h z87).f0 am := by unfold wrap32; omega
        have e3 : wrap32 ((o.getD h z87).f0 - min (o.getD h z87).f0 am) = (o.getD h z87).f0 - min (o.getD h z87).f0 am := by unfold wrap32; omega
        rw [e1, e2, e3, Int.toNat_natCast]
        refine ih _ _ _ k (by rw [List.length_set]; exact hin2) (by rw [List.length_set]; exact hn) (by rw [List.length_set, List.length_set]; exact hl) (fun j => by rw [keyOf_set]; exact hkey j) hp2 (fun c => ?_) (by rw [List.length_set]; omega)
        rw [List.length_set]
        have hne : ∀ c, c ∈ t → c ≠ h := fun c h1 h2 => by
          subst h2
          exact lexB_irr (hp1 c h1)
        constructor
        · intro h1
          obtain ⟨h2, h3⟩ := (hmem c).1 (List.mem_cons_of_mem _ h1)
          refine ⟨h2, ?_, h3.2⟩
          have h4 := h3.1
          rw [List.getD_eq_getElem?_getD] at h4 ⊢
          rw [List.getElem?_set, if_neg (fun e => hne c h1 e.symm)]
          exact h4
        · rintro ⟨h2, h3, h4⟩
          have hch : c ≠ h := fun e => by
            subst e
            rw [List.getD_eq_getElem?_getD, List.getElem?_set, if_pos rfl, if_pos (by omega)] at h3
            cases h3
          rw [List.getD_eq_getElem?_getD, List.getElem?_set, if_neg (fun e => hch e.symm), ← List.getD_eq_getElem?_getD] at h3
          rcases List.mem_cons.1 ((hmem c).2 ⟨h2, h3, h4⟩) with h5 | h5
          · exact absurd h5 hch
          · exact h5
    · rw [if_neg ham]
      have h0 : am = 0 := by have := hin.2.1; simp only at this; omega
      rw [fold_zero day o.length (h :: t) (o, am) hin h0 (fun i hi => ((hmem i).1 hi).1)]
theorem ordL_facts (l : List S87) : (ordL l).Perm (List.range l.length) ∧ (ordL l).Pairwise (lexB (keyOf l)) :=
  sortedBy l.length (keyOf l) (cfV l) (fun x y => by
    unfold cfV cmpI keyOf
    congr 1
    simp only [eq_iff_iff]
    split
    · constructor <;> intro _ <;> omega
    · split <;> constructor <;> intro _ <;> omega)
theorem sPay_is (l : List S87) (day am : Int) (h : inPay l.length (l, am)) (hl : l.length ≤ 1048576) (K : Nat) (hK : (l.length + 1) * (l.length + 3) ≤ K) : spec_l06Pay.f K l day am = some (payRes l day am) := by
  unfold spec_l06Pay.f
  rw [Option.bind_some, if_pos (by simp; omega), if_pos (by omega), if_pos (by omega), List.nil_append, Int.toNat_natCast]
  obtain ⟨h1, h2⟩ := ordL_facts l
  unfold payRes
  rw [fold_filter day (keyOf l) (ordL l) (l, am) (fun _ => rfl)]
  have hlen : ((ordL l).filter fun i => decide (day ≤ keyOf l i)).length ≤ l.length := by
    have h3 := List.length_filter_le (fun i => decide (day ≤ keyOf l i)) (ordL l)
    have h4 := h1.length_eq
    rw [List.length_range] at h4
    omega
  refine specPay day (keyOf l) _ l am _ K h hl (by simp) (fun _ => rfl) (h2.filter _) (fun c => ?_) (Nat.le_trans (Nat.mul_le_mul_right _ (by omega)) hK)
  rw [List.mem_filter, h1.mem_iff, List.mem_range, decide_eq_true_eq]
  unfold candB
  constructor
  · rintro ⟨h5, h6⟩
    exact ⟨h5, by simp [List.getD_eq_getElem?_getD, List.getElem?_replicate, h5], h6⟩
  · rintro ⟨h5, h6, h7⟩
    exact ⟨h5, h7⟩
theorem payRes_in (l : List S87) (day am : Int) (h : inPay l.length (l, am)) : inPay l.length (payRes l day am) := by
  have hlt : ∀ i ∈ ordL l, i < l.length := fun i hi => List.mem_range.1 ((ordL_facts l).1.mem_iff.1 hi)
  unfold payRes
  generalize ordL l = L at hlt
  generalize (l, am) = s at h
  induction L generalizing s with
  | nil => exact h
  | cons i L ih => exact ih (fun j hj => hlt j (List.mem_cons_of_mem _ hj)) _ (inPay_step h day i (hlt i List.mem_cons_self))
end Go.Proofs.Ytennlgkacijnnaa.Q
