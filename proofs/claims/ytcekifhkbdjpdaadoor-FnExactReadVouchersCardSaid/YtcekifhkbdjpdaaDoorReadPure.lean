/- Both readers of vouchers over lists alone: what they split, the numbers that they find. -/
import Derived.Test.YtcekifhkbdjpdaaDoorSplitMath
import Derived.Test.YtcekifhkbdjpdaaDoorHNum
import Derived.Test.YtcekifhkbdjpdaaDoorSpecRV
import Derived.Test.YtcekifhkbdjpdaaDoorQ3
set_option linter.unusedVariables false
set_option linter.unusedSimpArgs false
namespace Go.Proofs.YtcekifhkbdjpdaaDoor.Q
open Go.RowKit Go.Proofs.YtcekifhkbdjpdaaDoorW.PrintWords Go.Proofs.YtcekifhkbdjpdaaDoor.Loops Go.Proofs.YtcekifhkbdjpdaaDoor.Txt
/-- Bytes as a string. -/
def bs (l : List UInt8) : ByteArray := ⟨l.toArray⟩
theorem bs_size (a : List UInt8) : (bs a).size = a.length := by simp [bs, ByteArray.size]
theorem bs_bytes (a : List UInt8) : (bs a).data.toList = a := by simp [bs]
theorem bs_of (s : ByteArray) : bs s.data.toList = s := ByteArray.ext Array.toArray_toList
theorem size_bytes (s : ByteArray) : s.size = s.data.toList.length := Lib.size_eq s
def spB (c : UInt8) (s : ByteArray) : List ByteArray := (sp c s.data.toList).map bs
theorem spB_length (c : UInt8) (s : ByteArray) : (spB c s).length ≤ s.size + 1 := by
  unfold spB
  rw [List.length_map, size_bytes]
  exact sp_length_le c _
theorem spB_part (c : UInt8) (s : ByteArray) : ∀ p ∈ spB c s, p.size ≤ s.size := by
  intro p hp
  obtain ⟨q, hq, rfl⟩ := List.mem_map.1 hp
  rw [bs_size, size_bytes]
  exact sp_part_le c _ q hq
theorem iSplit_is (s : ByteArray) (c : UInt8) (h : s.size ≤ 1048576) : strings_Split.f s ⟨#[c]⟩ = some (spB c s) := by
  unfold strings_Split.f
  rw [if_pos ⟨h, rfl⟩]
  have h1 := Lib.splitB_data ⟨#[c]⟩ 0 (Lib.countB s ⟨#[c]⟩) s
  rw [show (⟨#[c]⟩ : ByteArray).data.toList = [c] from rfl] at h1
  have h2 := split_sp c s.data.toList
  rw [show Lib.countB s ⟨#[c]⟩ = Lib.count s.data.toList [c] from rfl] at h1 ⊢
  rw [h2] at h1
  unfold spB
  rw [← h1, List.map_map]
  congr 1
  conv => lhs; rw [← List.map_id (Lib.splitB ⟨#[c]⟩ 0 (Lib.count s.data.toList [c]) s)]
  refine List.map_congr_left fun x _ => (bs_of x).symm
theorem bt_is (s : ByteArray) (i : Nat) (h : i < s.size) : bt s (i : Int) = ((s.data.toList.getD i 0).toNat : Int) := by
  unfold bt
  rw [dif_pos (by simpa using h)]
  rw [List.getD_eq_getElem?_getD, List.getElem?_eq_getElem (by rw [← size_bytes]; exact h)]
  rfl
theorem byte_eq (b : UInt8) (c : Nat) (hc : c < 256) : ((b.toNat : Int) = (c : Int)) ↔ b = UInt8.ofNat c := by
  constructor
  · intro h
    apply UInt8.toNat_inj.1
    rw [UInt8.toNat_ofNat']
    omega
  · intro h
    rw [h, UInt8.toNat_ofNat']
    omega
theorem extract_bs (s : ByteArray) (a b : Nat) : s.extract a b = bs ((s.data.toList.drop a).take (b - a)) := by
  rw [← Lib.extract_data, bs_of]
theorem drop_mid (l : List UInt8) (a b : Nat) (h : a ≤ b) (hb : b ≤ l.length) : l.drop a = (l.drop a).take (b - a) ++ l.drop b := by
  have := (List.take_append_drop (b - a) (l.drop a)).symm
  rwa [List.drop_drop, show a + (b - a) = b by omega] at this
theorem take_more (l : List UInt8) (a b : Nat) (h : a ≤ b) (hb : b < l.length) : (l.drop a).take (b + 1 - a) = (l.drop a).take (b - a) ++ [l.getD b 0] := by
  rw [show b + 1 - a = (b - a) + 1 by omega, List.take_add_one, List.getElem?_drop, show a + (b - a) = b by omega, List.getElem?_eq_getElem hb, List.getD_eq_getElem?_getD, List.getElem?_eq_getElem hb]
  rfl
theorem sSplit_loop (s : ByteArray) (c : Nat) (hc : c < 256) (hs : s.size ≤ 1048576) : ∀ (d k i b : Nat) (out : List ByteArray), s.size - i = d → i ≤ s.size → b ≤ i → d < k → out.length ≤ i → UInt8.ofNat c ∉ (s.data.toList.drop b).take (i - b) →
    spec_l01Split.l0 k s (c : Int) out (b : Int) (i : Int) = some (out ++ (sp (UInt8.ofNat c) (s.data.toList.drop b)).map bs) := by
  intro d
  induction d with
  | zero =>
    intro k i b out hd hi hb hk ho hf
    obtain ⟨k, rfl⟩ : ∃ m, k = m + 1 := ⟨k - 1, by omega⟩
    have e : i = s.size := by omega
    subst e
    have he : (s.data.toList.drop b).take (s.size - b) = s.data.toList.drop b := List.take_of_length_le (by rw [List.length_drop, ← size_bytes]; omega)
    rw [he] at hf
    simp only [spec_l01Split.l0]
    rw [if_neg (by omega), if_pos (by omega), if_pos (by omega), if_pos (by omega), sp_alone _ _ hf, Int.toNat_natCast, extract_bs, he]
    rfl
  | succ d ih =>
    intro k i b out hd hi hb hk ho hf
    obtain ⟨k, rfl⟩ : ∃ m, k = m + 1 := ⟨k - 1, by omega⟩
    have hl : i < s.data.toList.length := by rw [← size_bytes]; omega
    simp only [spec_l01Split.l0]
    rw [if_pos (by omega), if_pos (by omega), bt_is s i (by omega), wrap_mid (i := (i : Int) + 1) (by omega) (by omega), show ((i : Int) + 1) = ((i + 1 : Nat) : Int) by omega]
    by_cases hq : s.data.toList.getD i 0 = UInt8.ofNat c
    · rw [if_pos ((byte_eq _ c hc).2 hq), if_pos (by omega), if_pos (by omega), if_pos (by omega), if_pos (by omega)]
      rw [ih k (i + 1) (i + 1) _ (by omega) (by omega) (by omega) (by omega) (by rw [List.length_append, List.length_singleton]; omega) (by simp)]
      have h1 := drop_mid s.data.toList b i hb (by omega)
      have h2 : s.data.toList.drop i = UInt8.ofNat c :: s.data.toList.drop (i + 1) := by rw [← hq]; exact drop_at s.data.toList 0 i hl
      rw [h1, h2, sp_free _ _ _ _ _ hf (sp_hit _ _), Int.toNat_natCast, Int.toNat_natCast, extract_bs]
      simp
    · rw [if_neg (fun h => hq ((byte_eq _ c hc).1 h))]
      refine ih k (i + 1) b out (by omega) (by omega) (by omega) (by omega) (by omega) ?_
      rw [take_more s.data.toList b i hb hl]
      intro hm
      rcases List.mem_append.1 hm with hm | hm
      · exact hf hm
      · exact hq (List.mem_singleton.1 hm).symm
theorem sSplit_is (s : ByteArray) (c : Nat) (hc : c < 256) (hs : s.size ≤ 1048576) (k : Nat) (hk : s.size < k) : spec_l01Split.f k s (c : Int) = some (spB (UInt8.ofNat c) s) := by
  unfold spec_l01Split.f
  have := sSplit_loop s c hc hs s.size k 0 0 [] (by omega) (by omega) (by omega) hk (by simp) (by simp)
  simpa [spB] using this
/-! Numbers. -/
theorem sNum_loop (s : ByteArray) (hs : s.size ≤ 9) : ∀ (d k i n : Nat), s.size - i = d → i ≤ s.size → d < k → n < 10 ^ i → 
    spec_l01Number.l0 k s (n : Int) (i : Int) = some (if (s.data.toList.drop i).all digB = true then ((((s.data.toList.drop i).foldl valF n : Nat) : Int), true) else (0, false)) := by
  intro d
  induction d with
  | zero =>
    intro k i n hd hi hk hn
    obtain ⟨k, rfl⟩ : ∃ m, k = m + 1 := ⟨k - 1, by omega⟩
    simp only [spec_l01Number.l0]
    rw [if_neg (by omega), List.drop_of_length_le (by rw [← size_bytes]; omega)]
    simp
  | succ d ih =>
    intro k i n hd hi hk hn
    obtain ⟨k, rfl⟩ : ∃ m, k = m + 1 := ⟨k - 1, by omega⟩
    have hl : i < s.data.toList.length := by rw [← size_bytes]; omega
    simp only [spec_l01Number.l0]
    rw [if_pos (by omega), if_pos (by omega), bt_is s i (by omega), drop_at s.data.toList 0 i hl, List.all_cons, List.foldl_cons]
    generalize s.data.toList.getD i 0 = b
    have hb : b.toNat < 256 := b.toNat_lt
    by_cases h1 : (b.toNat : Int) < 48
    · have : digB b = false := by rw [Bool.eq_false_iff]; intro h; have := digB_iff.1 h; omega
      rw [if_pos h1, this]
      simp
    · by_cases h2 : (b.toNat : Int) > 57
      · have : digB b = false := by rw [Bool.eq_false_iff]; intro h; have := digB_iff.1 h; omega
        rw [if_neg h1, if_pos h2, this]
        simp
      · have hd' : digB b = true := digB_iff.2 (by omega)
        have hp : 10 ^ (i + 1) ≤ 10 ^ 9 := Nat.pow_le_pow_right (by decide) (by omega)
        have hv : valF n b < 10 ^ (i + 1) := by unfold valF; rw [Nat.pow_succ]; omega
        have h9 : (10 : Nat) ^ 9 = 1000000000 := by decide
        have e : wrap64 (wrap64 (10 * (n : Int)) + ((b.toNat : Int) - 48) % 256) = ((valF n b : Nat) : Int) := by
          have : 10 * n < 1000000000 := by unfold valF at hv; omega
          rw [wrap_mid (i := 10 * (n : Int)) (by omega) (by omega), Int.emod_eq_of_lt (by omega) (by omega), wrap_mid (by omega) (by omega)]
          unfold valF
          omega
        rw [if_neg h1, if_neg h2, e, hd', Bool.true_and, wrap_mid (i := (i : Int) + 1) (by omega) (by omega), show ((i : Int) + 1) = ((i + 1 : Nat) : Int) by omega]
        exact ih k (i + 1) (valF n b) (by omega) (by omega) (by omega) hv
/-- What spec's reader of a number gives. -/
def numS (s : List UInt8) : Int × Bool := if isNum s = true then (((val s : Nat) : Int), true) else (0, false)
theorem toList_nil (s : ByteArray) : s.toList = ([] : List UInt8) ↔ s.data.toList = [] := by rw [Lib.toList_data]
theorem sNum_is (s : ByteArray) (k : Nat) (hk : 20 < k) : spec_l01Number.f k s = some (numS s.data.toList) := by
  unfold spec_l01Number.f numS
  obtain ⟨k, rfl⟩ : ∃ m, k = m + 1 := ⟨k - 1, by omega⟩
  have hj : ∀ x, spec_l01Number.j0 (k + 1) s x = if x = true then some (0, false) else spec_l01Number.l0 k s 0 0 := fun x => rfl
  have hsz := size_bytes s
  by_cases h0 : s.data.toList = []
  · rw [if_pos ((toList_nil s).2 h0), hj, if_pos rfl, h0]
    rfl
  · have hpos : 0 < s.size := by rw [hsz]; exact List.length_pos_iff.2 h0
    rw [if_neg (fun h => h0 ((toList_nil s).1 h))]
    by_cases h9 : (s.size : Int) > 9
    · rw [if_pos h9, hj, if_pos rfl]
      have : isNum s.data.toList = false := by
        unfold isNum
        rw [show decide (s.data.toList.length ≤ 9) = false from decide_eq_false (by omega)]
        simp
      rw [this]
      rfl
    · have hl := sNum_loop s (by omega) s.size k 0 0 (by omega) (by omega) (by omega) (by simp)
      rw [List.drop_zero] at hl
      have hh : s.data.toList.head? = some (s.data.toList.getD 0 0) := by
        cases hq : s.data.toList with
        | nil => exact absurd hq h0
        | cons a t => rfl
      have hb := bt_is s 0 hpos
      have hN : isNum s.data.toList = (s.data.toList.all digB && !(decide (s.data.toList.head? = some 48) && decide (1 < s.data.toList.length))) := by
        unfold isNum
        rw [show decide (s.data.toList ≠ []) = true from decide_eq_true h0, show decide (s.data.toList.length ≤ 9) = true from decide_eq_true (by omega), Bool.and_true, Bool.and_true]
      rw [if_neg h9, if_pos (by omega), hj, hj, hN]
      rw [show (0 : Int) = ((0 : Nat) : Int) from rfl] at *
      rw [hl]
      have hv : List.foldl valF 0 s.data.toList = val s.data.toList := rfl
      rw [hv]
      by_cases hz : s.data.toList.getD 0 0 = 48
      · have hbz : bt s ((0 : Nat) : Int) = 48 := by rw [hb, hz]; rfl
        rw [if_pos hbz, hh, hz, show decide (some (48 : UInt8) = some 48) = true from rfl, Bool.true_and]
        by_cases h1 : 1 < s.data.toList.length
        · rw [if_pos (decide_eq_true (by omega)), show decide (1 < s.data.toList.length) = true from decide_eq_true h1]
          simp
        · rw [if_neg (by simp; omega), show decide (1 < s.data.toList.length) = false from decide_eq_false h1]
          simp
      · have hbz : ¬ bt s ((0 : Nat) : Int) = 48 := fun h => hz ((byte_eq _ 48 (by decide)).1 (by rw [← hb]; exact h))
        rw [if_neg hbz, hh, show decide (some (s.data.toList.getD 0 0) = some (48 : UInt8)) = false from decide_eq_false (by simpa using hz)]
        simp
theorem iNum_is (s : ByteArray) (most : Int) (h0 : 0 ≤ most) (h1 : most ≤ 1000000) (hs : s.size ≤ 1048576) : impl_number.f s most = some (if isNum s.data.toList = true ∧ (val s.data.toList : Int) ≤ most then (((val s.data.toList : Nat) : Int), true) else (0, false)) := by
  unfold impl_number.f
  rw [if_pos hs]
  congr 1
  unfold numI
  rw [Lib.toList_data]
  by_cases h : isNum s.data.toList = true ∧ (val s.data.toList : Int) ≤ most
  · rw [if_pos h, parse_num _ h.1 (by omega)]
    simp only
    rw [if_pos ⟨by rw [Lib.itoa_nonneg]; exact num_val h.1, inB_true.2 ⟨by omega, h.2⟩⟩]
  · rw [if_neg h]
    split
    · rename_i v hp
      rw [if_neg]
      rintro ⟨ha, hb⟩
      have hb := inB_true.1 hb
      obtain ⟨u, rfl⟩ : ∃ u : Nat, v = u := ⟨v.toNat, by omega⟩
      rw [Lib.itoa_nonneg] at ha
      obtain ⟨g1, g2⟩ := dec_isNum u (by omega)
      rw [ha] at g1 g2
      exact h ⟨g1, by omega⟩
    · rfl
end Go.Proofs.YtcekifhkbdjpdaaDoor.Q
