/- Texts: what spec's Decimal gives; bytes put behind bytes. -/
import Derived.Test.YtcekifhkbdjpdaaDoorQ3
import Derived.Test.YtcekifhkbdjpdaaDoorHDecN
import Derived.Lib.ItoaLen
set_option linter.unusedVariables false
set_option linter.unusedSimpArgs false
namespace Go.Proofs.YtcekifhkbdjpdaaDoor.Q
open Go.RowKit Go.Proofs.YtcekifhkbdjpdaaDoorW.PrintWords
/-- Bytes as a string. -/
def bs (l : List UInt8) : ByteArray := ⟨l.toArray⟩
theorem bs_add (a b : List UInt8) : bs a ++ bs b = bs (a ++ b) := by
  apply ByteArray.ext
  simp [bs, ByteArray.data_append]
theorem bs_size (a : List UInt8) : (bs a).size = a.length := by simp [bs, ByteArray.size]
theorem bs_bytes (a : List UInt8) : (bs a).data.toList = a := by simp [bs]
theorem decimal_is (n : Int) (h0 : 0 ≤ n) (h1 : n ≤ 1000000) : impl_decimal.f n = some (bs (Lib.itoa n)) := by
  unfold impl_decimal.f
  rw [if_pos ⟨by omega, by omega⟩]
  rfl
theorem itoa_small (n : Int) (h0 : 0 ≤ n) (h1 : n ≤ 1000000) : (Lib.itoa n).length ≤ 21 := Lib.itoa_length_le n (by omega) (by omega)
theorem digit_is (u : Nat) (h : u < 10) : strOfNums ([(wrap64 (48 + Int.tmod (u : Int) 10)) % 256] : List Int) = bs [UInt8.ofNat (48 + u)] := by
  have e : (wrap64 (48 + Int.tmod (u : Int) 10)) % 256 = ((48 + u : Nat) : Int) := by
    rw [Int.tmod_eq_emod_of_nonneg (by omega)]
    unfold wrap64
    omega
  rw [e]
  unfold strOfNums bs
  simp only [List.map_cons, List.map_nil, Int.toNat_natCast]
theorem dig_at (u : Nat) (h1 : u ≤ 1000000) : strOfNums ([(wrap64 (48 + Int.tmod (u : Int) 10)) % 256] : List Int) = bs [UInt8.ofNat (48 + u % 10)] := by
  rw [← digit_is (u % 10) (by omega), show Int.tmod ((u % 10 : Nat) : Int) 10 = Int.tmod (u : Int) 10 by
    rw [Int.tmod_eq_emod_of_nonneg (by omega), Int.tmod_eq_emod_of_nonneg (by omega)]; omega]
theorem dec_nat : ∀ (k u : Nat), u < 10 ^ (k + 1) → u ≤ 1000000 → ∀ m, spec_Decimal.f (k + 1 + m) (u : Int) = some (bs (Lib.decDigits u)) := by
  intro k
  induction k with
  | zero =>
    intro u h h1 m
    rw [show 0 + 1 + m = m + 1 by omega]
    unfold spec_Decimal.f
    rw [if_pos (by omega), dig_at u h1, Lib.decDigits_one (by omega), show u % 10 = u by omega]
  | succ k ih =>
    intro u h h1 m
    rw [show k + 1 + 1 + m = (k + 1 + m) + 1 by omega]
    unfold spec_Decimal.f
    by_cases h10 : u < 10
    · rw [if_pos (by omega), dig_at u h1, Lib.decDigits_one (by omega), show u % 10 = u by omega]
    · have e1 : wrap64 (Int.tdiv (u : Int) 10) = ((u / 10 : Nat) : Int) := by
        rw [Int.tdiv_eq_ediv_of_nonneg (by omega)]
        unfold wrap64
        omega
      have h2 : u / 10 < 10 ^ (k + 1) := by
        rw [Nat.pow_succ] at h
        omega
      rw [if_neg (by omega), e1, ih (u / 10) h2 (by omega) m, Option.bind_some, Option.bind_some, dig_at u h1, bs_size, bs_size]
      have hl := Lib.nDigits_le20 (u / 10) (by omega)
      rw [if_pos (by rw [Lib.decDigits_length]; simp only [List.length_cons, List.length_nil]; omega), bs_add]
      congr 2
      rw [Lib.decDigits.eq_1 u, dif_neg h10]
theorem dec_is (n : Int) (h0 : 0 ≤ n) (h1 : n ≤ 1000000) (k : Nat) (hk : 10 < k) : spec_Decimal.f k n = some (bs (Lib.itoa n)) := by
  obtain ⟨u, rfl⟩ : ∃ u : Nat, n = u := ⟨n.toNat, by omega⟩
  obtain ⟨m, rfl⟩ : ∃ m, k = 9 + 1 + m := ⟨k - 10, by omega⟩
  rw [dec_nat 9 u (by omega) (by omega) m, Lib.itoa_nonneg]
end Go.Proofs.YtcekifhkbdjpdaaDoor.Q
