/- Texts split at a byte, and numbers out of texts: plain lists of bytes, no program. -/
import Derived.Lib.SplitLaws
import Derived.Lib.IndexBytes
import Derived.Lib.Split
import Derived.Lib.ItoaLen
import Derived.Lib.ParseIntB
set_option linter.unusedVariables false
set_option linter.unusedSimpArgs false
namespace Go.Proofs.YtcekifhkbdjpdaaDoor.Txt
open Go.Lib
/-- A list of bytes split at each byte c. -/
def sp (c : UInt8) : List UInt8 → List (List UInt8)
  | [] => [[]]
  | b :: r => if b = c then [] :: sp c r else match sp c r with
    | h :: t => (b :: h) :: t
    | [] => [[b]]
theorem sp_ne (c : UInt8) (s : List UInt8) : ∃ h t, sp c s = h :: t := by
  cases s with
  | nil => exact ⟨_, _, rfl⟩
  | cons b r =>
    unfold sp
    split
    · exact ⟨_, _, rfl⟩
    · split <;> exact ⟨_, _, rfl⟩
theorem sp_hit (c : UInt8) (r : List UInt8) : sp c (c :: r) = [] :: sp c r := by rw [sp, if_pos rfl]
theorem sp_miss (c b : UInt8) (r h : List UInt8) (t : List (List UInt8)) (hb : b ≠ c) (e : sp c r = h :: t) : sp c (b :: r) = (b :: h) :: t := by
  rw [sp, if_neg hb, e]
theorem sp_free (c : UInt8) : ∀ (cur rest h : List UInt8) (t : List (List UInt8)), c ∉ cur → sp c rest = h :: t → sp c (cur ++ rest) = (cur ++ h) :: t
  | [], rest, h, t, _, e => e
  | b :: cur, rest, h, t, hc, e => by
    have hb : b ≠ c := fun e => hc (by rw [e]; exact List.mem_cons_self)
    have := sp_free c cur rest h t (fun hm => hc (List.mem_cons_of_mem _ hm)) e
    rw [List.cons_append, sp_miss c b _ _ _ hb this, List.cons_append]
theorem sp_alone (c : UInt8) (cur : List UInt8) (hc : c ∉ cur) : sp c cur = [cur] := by
  have := sp_free c cur [] [] [] hc rfl
  simpa using this
theorem sp_length_le (c : UInt8) (s : List UInt8) : (sp c s).length ≤ s.length + 1 := by
  induction s with
  | nil => simp [sp]
  | cons b r ih =>
    by_cases hb : b = c
    · subst hb
      rw [sp_hit]
      simp only [List.length_cons]
      omega
    · obtain ⟨h, t, e⟩ := sp_ne c r
      rw [sp_miss c b r h t hb e]
      rw [e] at ih
      simp only [List.length_cons] at ih ⊢
      omega
theorem sp_part_le (c : UInt8) (s : List UInt8) : ∀ p ∈ sp c s, p.length ≤ s.length := by
  induction s with
  | nil => simp [sp]
  | cons b r ih =>
    by_cases hb : b = c
    · subst hb
      rw [sp_hit]
      intro p hp
      rcases List.mem_cons.1 hp with rfl | hp
      · simp
      · have := ih p hp
        simp only [List.length_cons]
        omega
    · obtain ⟨h, t, e⟩ := sp_ne c r
      rw [sp_miss c b r h t hb e]
      rw [e] at ih
      intro p hp
      rcases List.mem_cons.1 hp with rfl | hp
      · have := ih h List.mem_cons_self
        simp only [List.length_cons]
        omega
      · have := ih p (List.mem_cons_of_mem _ hp)
        simp only [List.length_cons]
        omega
theorem splitK_sp (c : UInt8) : ∀ (s : List UInt8) (k : Nat), s.count c ≤ k → splitK [c] 0 k s = sp c s := by
  intro s
  induction s with
  | nil =>
    intro k hk
    cases k with
    | zero => rfl
    | succ k =>
      unfold splitK
      rw [if_pos (by rw [index]; rfl)]
      rfl
  | cons b r ih =>
    intro k hk
    by_cases hb : b = c
    · subst hb
      rw [sp_hit]
      rw [List.count_cons_self] at hk
      obtain ⟨k, rfl⟩ : ∃ m, k = m + 1 := ⟨k - 1, by omega⟩
      have hx : index (b :: r) [b] = 0 := by rw [index]; simp [List.isPrefixOf]
      unfold splitK
      rw [hx, if_neg (by decide)]
      simp only [Int.toNat_zero, Nat.add_zero, List.take_zero, List.length_cons, List.length_nil, Nat.zero_add, List.drop_succ_cons, List.drop_zero]
      rw [ih k (by omega)]
    · rw [List.count_cons_of_ne (by simpa using hb)] at hk
      obtain ⟨h, t, e⟩ := sp_ne c r
      rw [sp_miss c b r h t hb e]
      have hx : index (b :: r) [c] = if index r [c] == -1 then -1 else index r [c] + 1 := by
        rw [index, if_neg (by simp [List.isPrefixOf]; exact fun h => hb h.symm)]
      cases k with
      | zero =>
        have := ih 0 (by omega)
        rw [e] at this
        unfold splitK at this ⊢
        injection this with h1 h2
        rw [← h1, ← h2]
      | succ k =>
        have := ih (k + 1) (by omega)
        rw [e] at this
        unfold splitK at this ⊢
        by_cases hm : index r [c] = -1
        · rw [hm, if_pos (by decide)] at this
          rw [hx, hm, if_pos (by decide)]
          injection this with h1 h2
          rw [← h1, ← h2]
        · have hge := index_ge r [c]
          obtain ⟨j, hj⟩ : ∃ j : Nat, index r [c] = j := ⟨(index r [c]).toNat, by omega⟩
          rw [hj, if_neg (by rw [beq_iff_eq]; omega)] at this
          have hx' : index (b :: r) [c] = (j : Int) + 1 := by rw [hx, hj, if_neg (by rw [beq_iff_eq]; omega)]
          rw [hx', if_neg (by rw [beq_iff_eq]; omega)]
          injection this with h1 h2
          rw [← h1, ← h2]
          rw [show ((j : Int) + 1).toNat = j + 1 by omega, Int.toNat_natCast]
          simp only [Nat.add_zero, List.take_succ_cons, List.length_cons, List.length_nil, Nat.zero_add, List.drop_succ_cons]
theorem split_sp (c : UInt8) (s : List UInt8) : splitK [c] 0 (count s [c]) s = sp c s := splitK_sp c s _ (by rw [count_one]; exact Nat.le_refl _)
/-! Numbers. -/
def digB (b : UInt8) : Bool := decide (48 ≤ b.toNat ∧ b.toNat ≤ 57)
def valF (n : Nat) (b : UInt8) : Nat := 10 * n + (b.toNat - 48)
def val (s : List UInt8) : Nat := s.foldl valF 0
/-- Digits alone, no needless 0 ahead, at most nine. -/
def isNum (s : List UInt8) : Bool := s.all digB && decide (s ≠ []) && decide (s.length ≤ 9) && !(decide (s.head? = some 48) && decide (1 < s.length))
theorem digB_iff {b : UInt8} : digB b = true ↔ 48 ≤ b.toNat ∧ b.toNat ≤ 57 := by simp [digB]
theorem byte_of (b : UInt8) : UInt8.ofNat b.toNat = b := by simp
theorem val_snoc (t : List UInt8) (b : UInt8) : val (t ++ [b]) = 10 * val t + (b.toNat - 48) := by simp [val, valF]
theorem val_one (b : UInt8) : val [b] = b.toNat - 48 := by simp [val, valF]
/-- Digits with none that is 0 ahead are the numeral of their value. -/
theorem dec_val : ∀ (n : Nat) (s : List UInt8), s.length = n → s.all digB = true → s ≠ [] → s.head? ≠ some 48 → decDigits (val s) = s ∧ 1 ≤ val s := by
  intro n
  induction n with
  | zero => intro s h _ hne; exact absurd (List.eq_nil_of_length_eq_zero h) hne
  | succ n ih =>
    intro s hl hd hne hh
    obtain ⟨t, b, rfl⟩ : ∃ t b, s = t ++ [b] := ⟨s.dropLast, s.getLast hne, (List.dropLast_concat_getLast hne).symm⟩
    rw [List.all_append, Bool.and_eq_true] at hd
    obtain ⟨hd1, hd2⟩ := hd
    have hb := digB_iff.1 (by simpa using hd2)
    rw [List.length_append, List.length_singleton] at hl
    cases t with
    | nil =>
      have hb0 : b ≠ 48 := by simpa using hh
      have hb1 : b.toNat ≠ 48 := fun e => hb0 (UInt8.toNat_inj.1 (by rw [e]; rfl))
      rw [List.nil_append, val_one]
      refine ⟨?_, by omega⟩
      rw [decDigits_one (by omega), show 48 + (b.toNat - 48) = b.toNat by omega, byte_of]
    | cons a t =>
      obtain ⟨h1, h2⟩ := ih (a :: t) (by omega) hd1 (by simp) (by simpa using hh)
      rw [val_snoc]
      refine ⟨?_, by omega⟩
      rw [decDigits.eq_1, dif_neg (by omega), show (10 * val (a :: t) + (b.toNat - 48)) / 10 = val (a :: t) by omega, h1, show 48 + (10 * val (a :: t) + (b.toNat - 48)) % 10 = b.toNat by omega, byte_of]
theorem num_val {s : List UInt8} (h : isNum s = true) : decDigits (val s) = s := by
  unfold isNum at h
  simp only [Bool.and_eq_true, decide_eq_true_eq, Bool.not_eq_true'] at h
  obtain ⟨⟨⟨hd, hne⟩, hl⟩, hz⟩ := h
  by_cases hh : s.head? = some 48
  · have h1 : ¬ 1 < s.length := by
      intro h
      simp [hh, h] at hz
    match s, hne, hh, h1 with
    | [b], _, hh, _ =>
      obtain rfl : b = 48 := by simpa using hh
      rw [val_one, decDigits_one (by decide)]
      rfl
    | a :: b :: r, _, _, h1 => simp at h1
  · exact (dec_val s.length s rfl hd hne hh).1
theorem dec_parts : ∀ n : Nat, (decDigits n).all digB = true ∧ val (decDigits n) = n ∧ decDigits n ≠ [] ∧ (1 ≤ n → (decDigits n).head? ≠ some 48) := by
  intro n
  induction n using Nat.strongRecOn with
  | _ n ih =>
    by_cases h : n < 10
    · have e : (UInt8.ofNat (48 + n)).toNat = 48 + n := by rw [UInt8.toNat_ofNat']; omega
      rw [decDigits_one h]
      refine ⟨by simp only [List.all_cons, List.all_nil, Bool.and_true]; rw [digB_iff, e]; omega, by rw [val_one, e]; omega, by simp, fun h1 hh => ?_⟩
      have : UInt8.ofNat (48 + n) = 48 := by simpa using hh
      have := congrArg UInt8.toNat this
      rw [e] at this
      have : (48 : UInt8).toNat = 48 := rfl
      omega
    · obtain ⟨h1, h2, h3, h4⟩ := ih (n / 10) (by omega)
      have e : (UInt8.ofNat (48 + n % 10)).toNat = 48 + n % 10 := by rw [UInt8.toNat_ofNat']; omega
      rw [decDigits.eq_1, dif_neg h]
      refine ⟨by rw [List.all_append, h1]; simp only [List.all_cons, List.all_nil, Bool.and_true, Bool.true_and]; rw [digB_iff, e]; omega, by rw [val_snoc, h2, e]; omega, by simp, fun _ => ?_⟩
      have := h4 (by omega)
      cases hd : decDigits (n / 10) with
      | nil => exact absurd hd h3
      | cons a t => rw [hd] at this; simpa using this
theorem nDigits_le : ∀ (k n : Nat), n < 10 ^ (k + 1) → nDigits n ≤ k + 1
  | 0, n, h => by rw [nDigits_small (by omega)]; omega
  | k + 1, n, h => by
    by_cases h10 : n < 10
    · rw [nDigits_small h10]; omega
    · rw [nDigits_big h10]
      have := nDigits_le k (n / 10) (by rw [Nat.pow_succ] at h; omega)
      omega
theorem dec_isNum (n : Nat) (h : n < 1000000000) : isNum (decDigits n) = true ∧ val (decDigits n) = n := by
  obtain ⟨h1, h2, h3, h4⟩ := dec_parts n
  have hl : (decDigits n).length ≤ 9 := by
    rw [decDigits_length]
    exact nDigits_le 8 n (by omega)
  refine ⟨?_, h2⟩
  unfold isNum
  simp only [Bool.and_eq_true, decide_eq_true_eq, Bool.not_eq_true']
  refine ⟨⟨⟨h1, h3⟩, hl⟩, ?_⟩
  by_cases hn : 1 ≤ n
  · simp [h4 hn]
  · obtain rfl : n = 0 := by omega
    rw [decDigits_one (by decide)]
    decide
theorem fold_ge (l : List UInt8) : ∀ acc, acc ≤ l.foldl valF acc := by
  induction l with
  | nil => intro acc; exact Nat.le_refl _
  | cons b l ih =>
    intro acc
    refine Nat.le_trans ?_ (ih (valF acc b))
    unfold valF
    omega
theorem parse_digits (M : Nat) (hM : 1000000000 ≤ M) : ∀ (l : List UInt8) (acc : Nat), l.all digB = true → l.foldl valF acc ≤ 1000000000 → parseUintM M acc l = .ok (l.foldl valF acc) := by
  intro l
  induction l with
  | nil => intro acc _ _; rfl
  | cons b l ih =>
    intro acc hd hb
    rw [List.all_cons, Bool.and_eq_true] at hd
    have h1 := digB_iff.1 hd.1
    rw [List.foldl_cons] at hb ⊢
    have h2 := fold_ge l (valF acc b)
    have h3 : valF acc b = acc * 10 + (b.toNat - 48) := by unfold valF; omega
    rw [parseUintM, if_pos h1, if_neg (by omega), if_neg (by omega), ← h3]
    exact ih _ hd.2 hb
theorem parse_num (s : List UInt8) (h : isNum s = true) (hv : val s ≤ 1000000000) : parseIntB 64 s = .ok (val s : Int) := by
  unfold isNum at h
  simp only [Bool.and_eq_true, decide_eq_true_eq, Bool.not_eq_true'] at h
  obtain ⟨⟨⟨hd, hne⟩, hl⟩, hz⟩ := h
  cases s with
  | nil => exact absurd rfl hne
  | cons b l =>
    have hb := digB_iff.1 (by rw [List.all_cons, Bool.and_eq_true] at hd; exact hd.1)
    have hp := parse_digits (2 ^ 64 - 1) (by decide) (b :: l) 0 hd hv
    unfold parseIntB
    simp only
    rw [if_neg (by omega)]
    unfold parseUintB
    rw [if_neg (by simp), hp]
    simp only
    rw [if_neg (by have : val (b :: l) = List.foldl valF 0 (b :: l) := rfl; omega), if_neg (by omega), if_neg (by omega)]
    rfl
end Go.Proofs.YtcekifhkbdjpdaaDoor.Txt
