/- The pure statement of FnExactReadVouchers: both sides read the same vouchers out of every text, or none. -/
import Derived.Test.YtcekifhkbdjpdaaDoorReadPure
import Derived.Test.YtcekifhkbdjpdaaDoorOMarks
import Derived.Test.YtcekifhkbdjpdaaDoorQ4
set_option linter.unusedVariables false
set_option linter.unusedSimpArgs false
namespace Go.Proofs.YtcekifhkbdjpdaaDoor.Q
open Go.RowKit Go.Proofs.YtcekifhkbdjpdaaDoorW.PrintWords Go.Proofs.YtcekifhkbdjpdaaDoor.Loops Go.Proofs.YtcekifhkbdjpdaaDoor.Txt
/-- Is it a number of at most a million? -/
def okPart (a : List UInt8) : Bool := isNum a && decide (val a ≤ 1000000)
/-- What a word tells: a voucher, or nothing. -/
def wordV (p : List UInt8) : Option S51 := match sp 64 p with
  | [a, b] => if okPart a = true ∧ okPart b = true ∧ val b ≤ 1000 then some ⟨(val a : Nat), (val b : Nat)⟩ else none
  | _ => none
/-- What the words tell, put behind what was read. -/
def readV : List ByteArray → List S51 → List S51 × Int
  | [], acc => if vouchersB acc = true then (acc, 0) else ([], 5)
  | p :: r, acc => match wordV p.data.toList with
    | some v => readV r (acc ++ [v])
    | none => ([], 5)
theorem readV_none (p : ByteArray) (r : List ByteArray) (acc : List S51) (h : wordV p.data.toList = none) : readV (p :: r) acc = ([], 5) := by rw [readV, h]
theorem readV_some (p : ByteArray) (r : List ByteArray) (acc : List S51) (v : S51) (h : wordV p.data.toList = some v) : readV (p :: r) acc = readV r (acc ++ [v]) := by rw [readV, h]
theorem word_two (p a b : List UInt8) (e : sp 64 p = [a, b]) : wordV p = if okPart a = true ∧ okPart b = true ∧ val b ≤ 1000 then some ⟨(val a : Nat), (val b : Nat)⟩ else none := by
  unfold wordV
  rw [e]
theorem word_else (p : List UInt8) (e : (sp 64 p).length ≠ 2) : wordV p = none := by
  unfold wordV
  split
  · rename_i h
    rw [h] at e
    simp at e
  · rfl
theorem word_ok (p : List UInt8) (v : S51) (h : wordV p = some v) : okVoucher v = true := by
  unfold wordV at h
  split at h
  · rename_i a b e
    split at h
    · rename_i hh
      injection h with h
      subst h
      obtain ⟨h1, h2, h3⟩ := hh
      unfold okPart at h1
      rw [Bool.and_eq_true] at h1
      have := of_decide_eq_true h1.2
      rw [okVoucher_iff]
      simp only
      omega
    · cases h
  · cases h
theorem word_full (p : List UInt8) (h : wordV p ≠ none) : p ≠ [] := by
  intro e
  subst e
  exact h rfl
theorem sp_sum (c : UInt8) (s : List UInt8) : ((sp c s).map (·.length)).sum + (sp c s).length = s.length + 1 := by
  induction s with
  | nil => simp [sp]
  | cons b r ih =>
    by_cases hb : b = c
    · subst hb
      rw [sp_hit]
      simp only [List.map_cons, List.sum_cons, List.length_cons, List.length_nil]
      omega
    · obtain ⟨h, t, e⟩ := sp_ne c r
      rw [sp_miss c b r h t hb e]
      rw [e] at ih
      simp only [List.map_cons, List.sum_cons, List.length_cons] at ih ⊢
      omega
theorem sum_ge (l : List (List UInt8)) (h : ∀ p ∈ l, p ≠ []) : l.length ≤ (l.map (·.length)).sum := by
  induction l with
  | nil => simp
  | cons p l ih =>
    have h1 := List.length_pos_iff.2 (h p List.mem_cons_self)
    have h2 := ih (fun q hq => h q (List.mem_cons_of_mem _ hq))
    simp only [List.map_cons, List.sum_cons, List.length_cons]
    omega
theorem words_few (s : ByteArray) (hs : s.size ≤ 1048576) (h : ∀ p ∈ spB 32 s, wordV p.data.toList ≠ none) : (spB 32 s).length ≤ 1000000 := by
  unfold spB at h ⊢
  rw [List.length_map]
  have h1 := sp_sum 32 s.data.toList
  have h2 := sum_ge (sp 32 s.data.toList) (fun p hp => by
    have := h _ (List.mem_map_of_mem hp)
    rw [bs_bytes] at this
    exact word_full p this)
  rw [size_bytes] at hs
  omega
theorem spB_two (p : ByteArray) (a b : List UInt8) (e : sp 64 p.data.toList = [a, b]) : spB 64 p = [bs a, bs b] := by
  unfold spB
  rw [e]
  rfl
theorem numS_ok (a : List UInt8) : numS a = (if isNum a = true then (((val a : Nat) : Int), true) else (0, false)) := rfl
theorem amount_is (n : Int) : spec_l06Amount.f n = some (inB n 0 1000000) := by
  unfold spec_l06Amount.f
  rw [vIn_is]
  rfl
theorem wrap32_small (n : Nat) (h : n ≤ 1000000) : wrap32 (n : Int) = n := by
  unfold wrap32
  omega
theorem wrap16_small (n : Nat) (h : n ≤ 1000) : IntKind.i16.wrap (n : Int) = n := by
  have h16 : (2 : Int) ^ IntKind.i16.bits = 65536 := by decide
  have h15 : (2 : Int) ^ (IntKind.i16.bits - 1) = 32768 := by decide
  have e : (n : Int) % (2 ^ IntKind.i16.bits : Int) = n := by rw [h16]; omega
  have : ∀ m : Int, m = (n : Int) → (if (IntKind.i16.signed && decide (m ≥ (2 ^ (IntKind.i16.bits - 1) : Int))) = true then m - (2 ^ IntKind.i16.bits : Int) else m) = n := by
    intro m hm
    subst hm
    rw [if_neg]
    rw [h15, Bool.and_eq_true]
    rintro ⟨_, h2⟩
    have := of_decide_eq_true h2
    omega
  exact this _ e
theorem sRead_step (W : List ByteArray) (k i : Nat) (acc : List S51) (hi : i < W.length) (hW : W.length ≤ 2000000) (ha : acc.length ≤ 2000000) (hp : (W.getD i ByteArray.empty).size ≤ 1048576) (hk : (W.getD i ByteArray.empty).size + 30 < k) :
    spec_ReadVouchers.l0 (k + 1) acc W (i : Int) = match wordV (W.getD i ByteArray.empty).data.toList with
      | some v => spec_ReadVouchers.l0 k (acc ++ [v]) W ((i + 1 : Nat) : Int)
      | none => some ([], 5) := by
  simp only [spec_ReadVouchers.l0]
  rw [if_pos (by omega), if_pos (by omega), wrap_mid (i := (i : Int) + 1) (by omega) (by omega), show ((i : Int) + 1) = ((i + 1 : Nat) : Int) by omega]
  have er : rdOf ByteArray.empty W (i : Int) = W.getD i ByteArray.empty := by unfold rdOf; rw [Int.toNat_natCast]
  rw [er]
  generalize W.getD i ByteArray.empty = p at hp hk ⊢
  have hs := sSplit_is p 64 (by decide) hp k (by omega)
  rw [show ((64 : Nat) : Int) = 64 from rfl] at hs
  rw [hs, Option.bind_some, show UInt8.ofNat 64 = 64 from rfl]
  by_cases h2 : (sp 64 p.data.toList).length = 2
  · match e : sp 64 p.data.toList, h2 with
    | [a, b], _ =>
      rw [spB_two p a b e, word_two _ a b e]
      simp only [List.length_cons, List.length_nil]
      rw [if_pos (by omega), if_pos (by omega)]
      simp only [rdOf, show (0 : Int).toNat = 0 from rfl, show (1 : Int).toNat = 1 from rfl, List.getD_cons_zero, List.getD_cons_succ]
      rw [sNum_is _ k (by omega), sNum_is _ k (by omega), bs_bytes, bs_bytes, Option.bind_some, if_pos (by omega), Option.bind_some, numS_ok, numS_ok]
      unfold okPart
      by_cases ha' : isNum a = true
      · by_cases hb' : isNum b = true
        · simp only [ha', hb', if_true, amount_is, sDays_is, Option.bind_some, Bool.true_and, decide_eq_true_eq]
          by_cases hva : val a ≤ 1000000
          · rw [if_pos (inB_true.2 (by omega))]
            by_cases hvb : val b ≤ 1000
            · rw [if_pos (inB_true.2 (by omega)), if_pos (by omega), if_pos ⟨hva, by omega, hvb⟩, wrap32_small _ hva, wrap16_small _ hvb]
            · rw [if_neg (by rw [inB_true]; omega), if_neg (fun h => hvb h.2.2)]
          · rw [if_neg (by rw [inB_true]; omega), if_neg (fun h => hva h.1)]
        · have hb'' : isNum b = false := by simpa using hb'
          simp [ha', hb'']
      · have ha'' : isNum a = false := by simpa using ha'
        simp [ha'']
  · rw [word_else _ h2, if_neg]
    unfold spB
    rw [List.length_map]
    omega
theorem fields_loop (most : Int) (P : List (List UInt8)) (h0 : most = 1000000) (hP : P.length ≤ 2000000) (hsz : ∀ p ∈ P, p.length ≤ 1048576) : ∀ (d k i : Nat), P.length - i = d → i ≤ P.length → d < k →
    impl_fields.l0 k most ((P.take i).map fun a => ((val a : Nat) : Int)) (P.map bs) (P.length : Int) (i : Int) = some (if (P.drop i).all okPart = true then (P.map fun a => ((val a : Nat) : Int), true) else ([], false)) := by
  intro d
  induction d with
  | zero =>
    intro k i hd hi hk
    obtain ⟨k, rfl⟩ : ∃ m, k = m + 1 := ⟨k - 1, by omega⟩
    have e : i = P.length := by omega
    subst e
    simp only [impl_fields.l0]
    rw [if_neg (by omega), List.drop_length, List.take_length]
    simp
  | succ d ih =>
    intro k i hd hi hk
    obtain ⟨k, rfl⟩ : ∃ m, k = m + 1 := ⟨k - 1, by omega⟩
    have hlt : i < P.length := by omega
    have eg : rdOf ByteArray.empty (P.map bs) (i : Int) = bs (P.getD i []) := by
      unfold rdOf
      rw [Int.toNat_natCast, List.getD_eq_getElem?_getD, List.getElem?_map, List.getElem?_eq_getElem hlt, getD_at P [] i hlt]
      rfl
    simp only [impl_fields.l0]
    rw [if_pos (by omega), if_pos (by omega), if_pos (by rw [List.length_map]; omega), eg, iNum_is _ most (by omega) (by omega) (by rw [bs_size]; exact hsz _ (getD_mem P [] i hlt)), bs_bytes, Option.bind_some, wrap_mid (i := (i : Int) + 1) (by omega) (by omega), show ((i : Int) + 1) = ((i + 1 : Nat) : Int) by omega, drop_at P [] i hlt, List.all_cons]
    by_cases hq : okPart (P.getD i []) = true
    · have hq' := hq
      unfold okPart at hq'
      rw [Bool.and_eq_true] at hq'
      have hv := of_decide_eq_true hq'.2
      have hin : (if isNum (P.getD i []) = true ∧ ((val (P.getD i []) : Nat) : Int) ≤ most then (((val (P.getD i []) : Nat) : Int), true) else (0, false)) = (((val (P.getD i []) : Nat) : Int), true) := if_pos ⟨hq'.1, by omega⟩
      rw [hin]
      simp only [if_true]
      have := ih k (i + 1) (by omega) (by omega) (by omega)
      rw [List.take_add_one, List.getElem?_eq_getElem hlt, List.map_append] at this
      rw [getD_at P [] i hlt] at hq ⊢
      rw [hq, Bool.true_and, if_pos (by rw [List.length_map, List.length_take]; omega)]
      exact this
    · have hq'' : okPart (P.getD i []) = false := by simpa using hq
      have hin : (if isNum (P.getD i []) = true ∧ ((val (P.getD i []) : Nat) : Int) ≤ most then (((val (P.getD i []) : Nat) : Int), true) else (0, false)) = (0, false) := if_neg (by
        rintro ⟨h1, h2⟩
        apply hq
        unfold okPart
        rw [h1, Bool.true_and]
        exact decide_eq_true (by omega))
      rw [hq'', Bool.false_and, hin]
      simp
theorem fields_is (p : ByteArray) (hp : p.size ≤ 1048576) (k : Nat) (hk : p.size + 5 < k) : impl_fields.f k p ⟨#[64]⟩ 1000000 = some (if (sp 64 p.data.toList).all okPart = true then ((sp 64 p.data.toList).map fun a => ((val a : Nat) : Int), true) else ([], false)) := by
  unfold impl_fields.f
  rw [iSplit_is p 64 hp, Option.bind_some]
  have hl := sp_length_le 64 p.data.toList
  rw [← size_bytes] at hl
  have := fields_loop 1000000 (sp 64 p.data.toList) rfl (by omega) (fun q hq => by have := sp_part_le 64 p.data.toList q hq; rw [← size_bytes] at this; omega) (sp 64 p.data.toList).length k 0 (by omega) (by omega) (by omega)
  simpa [spB] using this
theorem iRead_step (W : List ByteArray) (k i : Nat) (acc : List S51) (hi : i < W.length) (hW : W.length ≤ 2000000) (ha : acc.length ≤ 2000000) (hp : (W.getD i ByteArray.empty).size ≤ 1048576) (hk : (W.getD i ByteArray.empty).size + 30 < k) :
    impl_ReadVouchers.l0 (k + 1) acc W (W.length : Int) (i : Int) = match wordV (W.getD i ByteArray.empty).data.toList with
      | some v => impl_ReadVouchers.l0 k (acc ++ [v]) W (W.length : Int) ((i + 1 : Nat) : Int)
      | none => some ([], 5) := by
  simp only [impl_ReadVouchers.l0]
  rw [if_pos (by omega), if_pos (by omega), if_pos (by omega), wrap_mid (i := (i : Int) + 1) (by omega) (by omega), show ((i : Int) + 1) = ((i + 1 : Nat) : Int) by omega]
  have er : rdOf ByteArray.empty W (i : Int) = W.getD i ByteArray.empty := by unfold rdOf; rw [Int.toNat_natCast]
  rw [er]
  generalize W.getD i ByteArray.empty = p at hp hk ⊢
  rw [fields_is p hp k (by omega), Option.bind_some]
  by_cases hall : (sp 64 p.data.toList).all okPart = true
  · rw [if_pos hall]
    simp only [if_true]
    by_cases h2 : (sp 64 p.data.toList).length = 2
    · match e : sp 64 p.data.toList, h2 with
      | [a, b], _ =>
        rw [e] at hall
        simp only [List.all_cons, List.all_nil, Bool.and_true, Bool.and_eq_true] at hall
        rw [word_two _ a b e]
        simp only [List.map_cons, List.map_nil, List.length_cons, List.length_nil, rd, show (0 : Int).toNat = 0 from rfl, show (1 : Int).toNat = 1 from rfl, List.getD_cons_zero, List.getD_cons_succ]
        rw [if_pos (by omega), if_pos (by omega)]
        have hva : val a ≤ 1000000 := by
          have := hall.1
          unfold okPart at this
          rw [Bool.and_eq_true] at this
          exact of_decide_eq_true this.2
        by_cases hvb : val b ≤ 1000
        · rw [if_neg (by omega), if_pos (by omega), if_pos (by omega), if_pos ⟨hall.1, hall.2, hvb⟩, wrap32_small _ hva, wrap16_small _ hvb]
        · rw [if_pos (by omega), if_neg (fun h => hvb h.2.2)]
    · rw [word_else _ h2, if_neg (by rw [List.length_map]; omega)]
  · rw [if_neg hall]
    have : wordV p.data.toList = none := by
      by_cases h2 : (sp 64 p.data.toList).length = 2
      · match e : sp 64 p.data.toList, h2 with
        | [a, b], _ =>
          rw [word_two _ a b e, if_neg]
          rintro ⟨h1, h3, _⟩
          apply hall
          rw [e]
          simp [h1, h3]
      · exact word_else _ h2
    rw [this]
    simp
/-- A loop over words that stops at the first that tells nothing. -/
theorem read_loop (g : Nat → List S51 → Int → Option (List S51 × Int)) (W : List ByteArray) (N : Nat) (hW : W.length ≤ 2000000) (hN : ∀ p ∈ W, p.size ≤ N)
    (step : ∀ (k i : Nat) (acc : List S51), i < W.length → acc.length ≤ 2000000 → N + 30 < k → g (k + 1) acc (i : Int) = match wordV (W.getD i ByteArray.empty).data.toList with
      | some v => g k (acc ++ [v]) ((i + 1 : Nat) : Int)
      | none => some ([], 5))
    (last : ∀ (k : Nat) (acc : List S51), N + W.length + 30 < k → (∀ p ∈ W, wordV p.data.toList ≠ none) → acc.length = W.length → acc.all okVoucher = true → g (k + 1) acc (W.length : Int) = some (if vouchersB acc = true then (acc, 0) else ([], 5))) :
    ∀ (d k i : Nat) (acc : List S51), W.length - i = d → i ≤ W.length → d + N + W.length + 40 < k → acc.length = i → acc.all okVoucher = true → (∀ j, j < i → wordV (W.getD j ByteArray.empty).data.toList ≠ none) → g k acc (i : Int) = some (readV (W.drop i) acc) := by
  intro d
  induction d with
  | zero =>
    intro k i acc hd hi hk ha hok hall
    obtain ⟨k, rfl⟩ : ∃ m, k = m + 1 := ⟨k - 1, by omega⟩
    have e : i = W.length := by omega
    subst e
    rw [last k acc (by omega) (fun p hp => ?_) ha hok, List.drop_length]
    · rfl
    · obtain ⟨j, hj, rfl⟩ := List.getElem_of_mem hp
      have := hall j hj
      rwa [getD_at W ByteArray.empty j hj] at this
  | succ d ih =>
    intro k i acc hd hi hk ha hok hall
    obtain ⟨k, rfl⟩ : ∃ m, k = m + 1 := ⟨k - 1, by omega⟩
    rw [step k i acc (by omega) (by omega) (by omega), drop_at W ByteArray.empty i (by omega)]
    cases hw : wordV (W.getD i ByteArray.empty).data.toList with
    | none => rw [readV_none _ _ _ hw]
    | some v =>
      rw [readV_some _ _ _ v hw]
      simp only
      refine ih k (i + 1) _ (by omega) (by omega) (by omega) (by rw [List.length_append, List.length_singleton, ha]) ?_ (fun j hj => ?_)
      · rw [List.all_append, hok]
        simp [word_ok _ v hw]
      · by_cases e : j = i
        · subst e
          rw [hw]
          simp
        · exact hall j (by omega)
def readR (s : ByteArray) : List S51 × Int := if s.toList = ([] : List UInt8) then ([], 0) else readV (spB 32 s) []
theorem readV_short : ∀ (W : List ByteArray) (acc : List S51), (readV W acc).1.length ≤ 12
  | [], acc => by
    unfold readV
    split
    · rename_i h
      unfold vouchersB at h
      rw [Bool.and_eq_true] at h
      have := of_decide_eq_true h.1
      simp only
      omega
    · simp
  | p :: r, acc => by
    cases h : wordV p.data.toList with
    | none => rw [readV_none _ _ _ h]; simp
    | some v => rw [readV_some _ _ _ v h]; exact readV_short r _
theorem readR_short (s : ByteArray) : (readR s).1.length ≤ 12 := by
  unfold readR
  split
  · simp
  · exact readV_short _ _
theorem sRead_is (s : ByteArray) (hs : s.size ≤ 1048576) (k : Nat) (hk : 4 * s.size + 100 < k) : spec_ReadVouchers.f k s = some (readR s) := by
  unfold spec_ReadVouchers.f readR
  rw [Option.bind_some]
  by_cases h0 : s.toList = ([] : List UInt8)
  · rw [if_pos h0, if_pos h0]
  · have hl := spB_length 32 s
    have hsp := sSplit_is s 32 (by decide) hs k (by omega)
    rw [show ((32 : Nat) : Int) = 32 from rfl, show UInt8.ofNat 32 = 32 from rfl] at hsp
    rw [if_neg h0, if_neg h0, hsp, Option.bind_some]
    have := read_loop (fun k acc i => spec_ReadVouchers.l0 k acc (spB 32 s) i) (spB 32 s) s.size (by omega) (spB_part 32 s) (fun k i acc hi ha hk => ?_) (fun k acc hk hf ha hok => ?_) (spB 32 s).length k 0 [] (by omega) (by omega) (by omega) rfl rfl (fun j hj => absurd hj (Nat.not_lt_zero _))
    · rwa [List.drop_zero] at this
    · have := spB_part 32 s _ (getD_mem (spB 32 s) ByteArray.empty i hi)
      exact sRead_step _ k i acc hi (by omega) ha (by omega) (by omega)
    · have hw := words_few s hs hf
      show spec_ReadVouchers.l0 (k + 1) acc (spB 32 s) _ = _
      simp only [spec_ReadVouchers.l0]
      rw [if_neg (by omega), sVouchers_is acc hok (by omega) k (by omega), Option.bind_some]
      split <;> rfl
theorem iRead_is (s : ByteArray) (hs : s.size ≤ 1048576) (k : Nat) (hk : 4 * s.size + 100 < k) : impl_ReadVouchers.f k s = some (readR s) := by
  unfold impl_ReadVouchers.f readR
  rw [Option.bind_some]
  by_cases h0 : s.toList = ([] : List UInt8)
  · rw [if_pos h0, if_pos h0]
  · have hl := spB_length 32 s
    rw [if_neg h0, if_neg h0, iSplit_is s 32 hs, Option.bind_some]
    have := read_loop (fun k acc i => impl_ReadVouchers.l0 k acc (spB 32 s) ((spB 32 s).length : Int) i) (spB 32 s) s.size (by omega) (spB_part 32 s) (fun k i acc hi ha hk => ?_) (fun k acc hk hf ha hok => ?_) (spB 32 s).length k 0 [] (by omega) (by omega) (by omega) rfl rfl (fun j hj => absurd hj (Nat.not_lt_zero _))
    · rwa [List.drop_zero] at this
    · have := spB_part 32 s _ (getD_mem (spB 32 s) ByteArray.empty i hi)
      exact iRead_step _ k i acc hi (by omega) ha (by omega) (by omega)
    · show impl_ReadVouchers.l0 (k + 1) acc (spB 32 s) _ _ = _
      simp only [impl_ReadVouchers.l0]
      unfold impl_ValidVouchers.f
      rw [if_neg (by omega), if_pos hok, Option.bind_some]
      split <;> rfl
theorem Pure.FnExactReadVouchers (x0 : ByteArray) (w0 : x0.size ≤ maxLen) : ∃ k, laws_FnExactReadVouchers.f k x0 = some true := by
  by_cases h1 : (x0.size : Int) > 1048576
  · refine ⟨0, ?_⟩
    unfold laws_FnExactReadVouchers.f
    rw [if_pos h1]
  · have hs : x0.size ≤ 1048576 := by omega
    have hlen := readR_short x0
    have Sp := fun k (hk : 4 * x0.size + 100 < k) => sRead_is x0 hs k hk
    have I := fun k (hk : 4 * x0.size + 100 < k) => iRead_is x0 hs k hk
    obtain ⟨⟨r, c⟩, hr⟩ : ∃ y, readR x0 = y := ⟨_, rfl⟩
    rw [hr] at hlen
    simp only [hr] at Sp I
    simp only at hlen
    have E : ∀ k, 12 < k → laws_eqVoucherS.f k r r = some true := fun k hk => by rw [eqVoucherS_is r r (by omega) k (by omega)]; simp
    have M2 := fun k (hk : 12 < k) => markVoucherS_is r (by omega) k (by omega) 1 (by omega) (by omega)
    have H := fun k (hk : 12 < k) => heldVoucherS_is r.length (by omega) k (by omega) 1 (by omega) (by omega)
    refine ⟨4 * x0.size + 200, ?_⟩
    unfold laws_FnExactReadVouchers.f
    rw [if_neg h1, Sp _ (by omega), Option.bind_some, I _ (by omega), Option.bind_some]
    simp only
    rw [E _ (by omega)]
    simp only [Option.bind_some, if_true, bne_self_eq_false]
    rw [show 4 * x0.size + 200 = (4 * x0.size + 199) + 1 by omega]
    simp only [laws_FnExactReadVouchers.j0]
    rw [if_neg (by simp), M2 _ (by omega)]
    simp only [Option.bind_some]
    rw [H _ (by omega)]
    simp only [Option.bind_some, if_true]
    rw [if_neg (by omega), I _ (by omega)]
    simp only [Option.bind_some]
    rw [E _ (by omega)]
    simp only [Option.bind_some, if_true, bne_self_eq_false]
    rw [show 4 * x0.size + 199 = (4 * x0.size + 198) + 1 by omega]
    simp only [laws_FnExactReadVouchers.j1]
    rw [if_neg (by simp), H _ (by omega)]
    simp only [Option.bind_some, if_true]
    rw [if_neg (by omega)]
end Go.Proofs.YtcekifhkbdjpdaaDoor.Q
