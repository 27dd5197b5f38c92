/- The laws' marks: what they write into a list of structs, and that they find it again. -/
import Derived.Test.YtcekifhkbdjpdaaDoorHelpRV
import Derived.Test.YtcekifhkbdjpdaaDoorOLoops
set_option linter.unusedVariables false
set_option linter.unusedSimpArgs false
namespace Go.Proofs.YtcekifhkbdjpdaaDoor.Loops
open Go.RowKit Go.Proofs.YtcekifhkbdjpdaaDoorW.PrintWords
def gmarks {α : Type} (mk : Int → α) (s : Nat) (a : Int) (n : Nat) : List α := (List.range n).map fun (j : Nat) => mk (a + s * j)
theorem gmarks_length {α : Type} (mk : Int → α) (s : Nat) (a : Int) (n : Nat) : (gmarks mk s a n).length = n := by simp [gmarks]
theorem gmarks_get {α : Type} (mk : Int → α) (s : Nat) (a : Int) (n i : Nat) (z : α) (h : i < n) : (gmarks mk s a n).getD i z = mk (a + s * i) := by
  rw [getD_at _ _ _ (by rw [gmarks_length]; exact h)]
  simp [gmarks]
theorem mul_succ_cast (s d : Nat) : (s : Int) * ((d + 1 : Nat) : Int) = s * d + s := by rw [Int.natCast_add, Int.mul_add]; simp
theorem gmarks_cons {α : Type} (mk : Int → α) (s : Nat) (a : Int) (n : Nat) : gmarks mk s a (n + 1) = mk a :: gmarks mk s (a + s) n := by
  apply List.ext_getElem?
  intro i
  cases i with
  | zero => simp [gmarks]
  | succ i =>
    simp only [gmarks, List.getElem?_cons_succ, List.getElem?_map]
    by_cases h : i < n
    · rw [List.getElem?_range (by omega), List.getElem?_range h]
      simp only [Option.map_some]
      rw [mul_succ_cast, show a + (s : Int) + s * i = a + (s * i + s) by omega]
    · rw [List.getElem?_eq_none (by simp; omega), List.getElem?_eq_none (by simp; omega)]
      rfl
theorem gmark_loop {α : Type} (g : Nat → List α → Int → Int → Option (Int × List α)) (mk : Int → α) (s : Nat) (hs : s ≤ 1024)
    (step : ∀ (k : Nat) (l : List α) (a : Int) (i : Nat), i < l.length → l.length ≤ 1048576 → 0 ≤ a → a ≤ 2305843009213693952 → g (k + 1) l a (i : Int) = g k (l.set i (mk a)) (a + s) ((i + 1 : Nat) : Int))
    (last : ∀ (k : Nat) (l : List α) (a : Int), g (k + 1) l a (l.length : Int) = some (a, l)) :
    ∀ (d k : Nat) (l : List α) (a : Int) (i : Nat), l.length ≤ 1048576 → l.length - i = d → i ≤ l.length → d < k → 0 ≤ a → a + s * d ≤ 2305843009213693952 → g k l a (i : Int) = some (a + s * d, l.take i ++ gmarks mk s a d) := by
  intro d
  induction d with
  | zero =>
    intro k l a i hl hd hi hk ha hb
    obtain ⟨k, rfl⟩ : ∃ n, k = n + 1 := ⟨k - 1, by omega⟩
    have : i = l.length := by omega
    subst this
    rw [last, List.take_of_length_le (by omega)]
    simp [gmarks]
  | succ d ih =>
    intro k l a i hl hd hi hk ha hb
    obtain ⟨k, rfl⟩ : ∃ n, k = n + 1 := ⟨k - 1, by omega⟩
    have hm := mul_succ_cast s d
    have h0 : (0 : Int) ≤ s * d := Int.mul_nonneg (by omega) (by omega)
    rw [step k l a i (by omega) hl ha (by omega), ih k _ (a + s) (i + 1) (by rw [List.length_set]; exact hl) (by rw [List.length_set]; omega) (by rw [List.length_set]; omega) (by omega) (by omega) (by omega), take_set _ _ _ (by omega), gmarks_cons]
    simp only [List.append_assoc, List.cons_append, List.nil_append]
    rw [hm, show a + (s : Int) + s * d = a + (s * d + s) by omega]
theorem gheld_loop {α : Type} (g : Nat → List α → Int → Int → Option Int) (mk : Int → α) (s : Nat) (z : α) (n : Nat) (b : Int) (hn : n ≤ 1048576) (hb0 : 0 ≤ b) (hb : b ≤ 1048576 * 1048576) (hs : s ≤ 1024)
    (step : ∀ (k : Nat) (l : List α) (a : Int) (i : Nat), i < l.length → l.length ≤ 1048576 → 0 ≤ a → a ≤ 2305843009213693952 → l.getD i z = mk a → g (k + 1) l a (i : Int) = g k l (a + s) ((i + 1 : Nat) : Int))
    (last : ∀ (k : Nat) (l : List α) (a : Int), g (k + 1) l a (l.length : Int) = some a) :
    ∀ (d k i : Nat), n - i = d → i ≤ n → d < k → g k (gmarks mk s b n) (b + s * i) (i : Int) = some (b + s * n) := by
  intro d
  induction d with
  | zero =>
    intro k i hd hi hk
    obtain ⟨k, rfl⟩ : ∃ n, k = n + 1 := ⟨k - 1, by omega⟩
    have : i = n := by omega
    subst this
    have := last k (gmarks mk s b i) (b + s * i)
    rw [gmarks_length] at this
    exact this
  | succ d ih =>
    intro k i hd hi hk
    obtain ⟨k, rfl⟩ : ∃ n, k = n + 1 := ⟨k - 1, by omega⟩
    have hm := mul_succ_cast s i
    have h0 : (0 : Int) ≤ s * i := Int.mul_nonneg (by omega) (by omega)
    have h1 : (s : Int) * i ≤ 1024 * 1048576 := Int.mul_le_mul (by omega) (by omega) (by omega) (by omega)
    rw [step k _ _ i (by rw [gmarks_length]; omega) (by rw [gmarks_length]; exact hn) (by omega) (by omega) (gmarks_get mk s b n i z (by omega)), show b + (s : Int) * i + s = b + s * ((i + 1 : Nat) : Int) by rw [hm]; omega]
    exact ih k (i + 1) (by omega) (by omega) (by omega)
end Go.Proofs.YtcekifhkbdjpdaaDoor.Loops
namespace Go.Proofs.YtcekifhkbdjpdaaDoor.Q
open Go.RowKit Go.Proofs.YtcekifhkbdjpdaaDoorW.PrintWords Go.Proofs.YtcekifhkbdjpdaaDoorW.PrintLast Go.Proofs.YtcekifhkbdjpdaaDoorW.PrintMore Go.Proofs.YtcekifhkbdjpdaaDoor.Loops
def mkVoucher (a : Int) : S51 := ⟨wrap32 a, IntKind.i16.wrap (a + 1)⟩
theorem markVoucherS_is (l : List S51) (hl : l.length ≤ 1048576) (k : Nat) (hk : l.length < k) (a : Int) (ha : 0 ≤ a) (hb : a ≤ 1048576 * 1048576) : laws_markVoucherS.f k l a = some (a + 2 * l.length, gmarks mkVoucher 2 a l.length) := by
  unfold laws_markVoucherS.f
  have := gmark_loop (fun k l a i => laws_markVoucherS.l0 k l a i) mkVoucher 2 (by omega) (fun k l a i h1 h2 h3 h4 => ?_) (fun k l a => ?_) l.length k l a 0 hl (by omega) (by omega) hk ha (by omega)
  · simpa using this
  · simp only [laws_markVoucherS.l0]
    rw [if_pos (by omega), if_pos (by omega), Option.bind_some, Int.toNat_natCast, wrap_mid (i := (i : Int) + 1) (by omega) (by omega)]
    have e1 : wrap64 (a + 1) = a + 1 := wrap_mid (by omega) (by omega)
    have e2 : wrap64 (a + 1 + 1) = a + ((2 : Nat) : Int) := by rw [wrap_mid (by omega) (by omega)]; omega
    rw [e1, e2, List.set_set]
    have e3 : (rd_T51 (l.set i ⟨wrap32 a, (rd_T51 l (i : Int)).f1⟩) (i : Int)).f0 = wrap32 a := by
      simp only [rd_T51, Int.toNat_natCast, List.getD_eq_getElem?_getD, List.getElem?_set]
      simp [h1]
    rw [e3]
    rfl
  · simp only [laws_markVoucherS.l0]
    rw [if_neg (by omega)]
theorem heldVoucherS_is (n : Nat) (hn : n ≤ 1048576) (k : Nat) (hk : n < k) (a : Int) (ha : 0 ≤ a) (hb : a ≤ 1048576 * 1048576) : laws_heldVoucherS.f k (gmarks mkVoucher 2 a n) a = some (a + 2 * n) := by
  unfold laws_heldVoucherS.f
  have := gheld_loop (fun k l a i => laws_heldVoucherS.l0 k l a i) mkVoucher 2 z51 n a hn ha hb (by omega) (fun k l a i h1 h2 h3 h4 h5 => ?_) (fun k l a => ?_) n k 0 (by omega) (by omega) hk
  · simpa using this
  · simp only [laws_heldVoucherS.l0]
    have hrd : rd_T51 l (i : Int) = mkVoucher a := by simp only [rd_T51, Int.toNat_natCast]; exact h5
    have e1 : wrap64 (a + 1) = a + 1 := wrap_mid (by omega) (by omega)
    have e2 : wrap64 (a + 1 + 1) = a + ((2 : Nat) : Int) := by rw [wrap_mid (by omega) (by omega)]; omega
    rw [if_pos (by omega), if_pos (by omega), hrd, e1, e2, if_pos (show (mkVoucher a).f0 = wrap32 a from rfl), if_pos (show (mkVoucher a).f1 = IntKind.i16.wrap (a + 1) from rfl), wrap_mid (i := (i : Int) + 1) (by omega) (by omega)]
    rfl
  · simp only [laws_heldVoucherS.l0]
    rw [if_neg (by omega)]
end Go.Proofs.YtcekifhkbdjpdaaDoor.Q
