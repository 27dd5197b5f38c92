/- spec's l06Swapped, l06Rings, as the printer tells them: what they come to. -/
import Derived.Test.YtgjpnamckkedfaaSwapMath
import Derived.Test.YtgjpnamckkedfaaQ1
import Derived.Test.YtgjpnamckkedfaaQ2
set_option linter.unusedVariables false
set_option linter.unusedSimpArgs false
namespace Go.Proofs.Ytgjpnamckkedfaa.Q
open Go.RowKit Go.Proofs.YtgjpnamckkedfaaW.PrintWords Go.Proofs.YtgjpnamckkedfaaW.PrintLast Go.Proofs.YtgjpnamckkedfaaW.PrintMore
theorem w64 {n : Int} (h0 : 0 ≤ n) (h1 : n ≤ 1000000000000) : wrap64 n = n := by unfold wrap64; omega
theorem rd_nat (l : List Int) (i : Nat) : rd l (i : Int) = l.getD i 0 := by simp [rd]
theorem sIn_is (a : Int) : spec_l00In.f a 0 100 = some (inB a 0 100) := by
  unfold spec_l00In.f inB
  split
  · rename_i h
    congr 1
    simp only [decide_eq_decide]
    omega
  · rename_i h
    congr 1
    symm
    rw [decide_eq_false_iff_not]
    omega
theorem has_loop (l : List Int) (x : Int) (hl : l.length ≤ 1048576) (s : Nat) : ∀ (i k : Nat), i + s = l.length → s < k → spec_l00Has.l0 k l x i = some ((l.drop i).contains x) := by
  induction s with
  | zero =>
    intro i k hi hk
    obtain ⟨k, rfl⟩ : ∃ k', k = k' + 1 := ⟨k - 1, by omega⟩
    rw [spec_l00Has.l0, if_neg (by omega), List.drop_of_length_le (by omega)]
    rfl
  | succ s ih =>
    intro i k hi hk
    obtain ⟨k, rfl⟩ : ∃ k', k = k' + 1 := ⟨k - 1, by omega⟩
    rw [spec_l00Has.l0, if_pos (by omega), if_pos (by omega), rd_nat, drop_cons_of l 0 i (by omega)]
    by_cases h : l.getD i 0 = x
    · rw [if_pos h, h]
      simp
    · rw [if_neg h, w64 (by omega) (by omega), show (i : Int) + 1 = ((i + 1 : Nat) : Int) by omega, ih (i + 1) k (by omega) (by omega)]
      congr 1
      rw [List.contains_cons]
      have : (x == l.getD i 0) = false := by simp; exact fun e => h e.symm
      rw [this, Bool.false_or]
theorem has_is (l : List Int) (x : Int) (hl : l.length ≤ 1048576) (k : Nat) (hk : l.length < k) : spec_l00Has.f k l x = some (l.contains x) := by
  unfold spec_l00Has.f
  have := has_loop l x hl l.length 0 k (by omega) hk
  simpa using this
theorem where_loop (l : List Int) (x : Int) (hl : l.length ≤ 1048576) (s : Nat) : ∀ (i k : Nat), i + s = l.length → s < k → spec_l06Where.l0 k l x i = some (whereF x (l.drop i) i) := by
  induction s with
  | zero =>
    intro i k hi hk
    obtain ⟨k, rfl⟩ : ∃ k', k = k' + 1 := ⟨k - 1, by omega⟩
    rw [spec_l06Where.l0, if_neg (by omega), whereF_end l x i (by omega)]
  | succ s ih =>
    intro i k hi hk
    obtain ⟨k, rfl⟩ : ∃ k', k = k' + 1 := ⟨k - 1, by omega⟩
    rw [spec_l06Where.l0, if_pos (by omega), if_pos (by omega), rd_nat, whereF_step l x i (by omega)]
    by_cases h : l.getD i 0 = x
    · rw [if_pos h, if_pos h]
    · rw [if_neg h, if_neg h, w64 (by omega) (by omega), show (i : Int) + 1 = ((i + 1 : Nat) : Int) by omega, ih (i + 1) k (by omega) (by omega)]
theorem where_is (l : List Int) (x : Int) (hl : l.length ≤ 1048576) (k : Nat) (hk : l.length < k) : spec_l06Where.f k l x = some (whereL l x) := by
  unfold spec_l06Where.f whereL
  have := where_loop l x hl l.length 0 k (by omega) hk
  simpa using this
def okFrom (l m : List Int) : Nat → Nat → Bool
  | 0, _ => true
  | s + 1, i => swapAt l m i && okFrom l m s (i + 1)
theorem okFrom_iff (l m : List Int) (s : Nat) : ∀ i, okFrom l m s i = true ↔ ∀ j, i ≤ j → j < i + s → swapAt l m j = true := by
  induction s with
  | zero => intro i; simp [okFrom]; intro j h1 h2; omega
  | succ s ih =>
    intro i
    rw [okFrom, Bool.and_eq_true, ih]
    constructor
    · intro h j h1 h2
      by_cases e : j = i
      · rw [e]; exact h.1
      · exact h.2 j (by omega) (by omega)
    · intro h
      exact ⟨h i (Nat.le_refl _) (by omega), fun j h1 h2 => h j (by omega) (by omega)⟩
theorem sSwapped_loop (l m : List Int) (hlm : l.length = m.length) (h9 : l.length ≤ 9) (s : Nat) : ∀ (i k : Nat), i + s = l.length → s + 11 < k → spec_l06Swapped.l0 k l m i = some (okFrom l m s i) := by
  induction s with
  | zero =>
    intro i k hi hk
    obtain ⟨k, rfl⟩ : ∃ k', k = k' + 1 := ⟨k - 1, by omega⟩
    rw [spec_l06Swapped.l0, if_neg (by omega)]
    rfl
  | succ s ih =>
    intro i k hi hk
    obtain ⟨k, rfl⟩ : ∃ k', k = k' + 1 := ⟨k - 1, by omega⟩
    rw [spec_l06Swapped.l0, if_pos (by omega), if_pos (by omega), rd_nat, rd_nat, sIn_is, Option.bind_some, okFrom]
    unfold swapAt
    have et : ∀ (q : List Int), (q.take ((i : Int)).toNat) = q.take i := fun q => by rw [Int.toNat_natCast]
    by_cases h1 : inB (l.getD i 0) 0 100 = true
    · rw [if_pos h1, if_pos (by omega), et, has_is _ _ (by simp; omega) k (by simp; omega), Option.bind_some, h1, Bool.true_and]
      by_cases h2 : (l.take i).contains (l.getD i 0) = true
      · rw [if_pos h2, h2]; rfl
      · rw [if_neg h2, if_pos (by omega), if_pos (by omega), et, has_is _ _ (by simp; omega) k (by simp; omega), Option.bind_some]
        rw [show (l.take i).contains (l.getD i 0) = false by simpa using h2, Bool.not_false, Bool.true_and]
        by_cases h3 : (m.take i).contains (m.getD i 0) = true
        · rw [if_pos h3, h3]; rfl
        · rw [if_neg h3, has_is l _ (by omega) k (by omega), Option.bind_some]
          rw [show (m.take i).contains (m.getD i 0) = false by simpa using h3, Bool.not_false, Bool.true_and]
          by_cases h4 : l.contains (m.getD i 0) = true
          · rw [if_pos h4, h4, Bool.true_and, w64 (by omega) (by omega), show (i : Int) + 1 = ((i + 1 : Nat) : Int) by omega, ih (i + 1) k (by omega) (by omega)]
          · rw [if_neg h4, show l.contains (m.getD i 0) = false by simpa using h4]; rfl
    · rw [if_neg h1, show inB (l.getD i 0) 0 100 = false by simpa using h1]; rfl
theorem sSwapped_is (l m : List Int) (k : Nat) (hk : 40 ≤ k) : spec_l06Swapped.f k l m = some (areSwB l m) := by
  unfold spec_l06Swapped.f
  obtain ⟨k, rfl⟩ : ∃ k', k = k' + 1 := ⟨k - 1, by omega⟩
  by_cases h : l.length = m.length
  · rw [if_pos (by omega), spec_l06Swapped.j0]
    by_cases h9 : l.length ≤ 9
    · rw [if_neg (by simp; omega)]
      have := sSwapped_loop l m h h9 l.length 0 k (by omega) (by omega)
      rw [show ((0 : Nat) : Int) = 0 from rfl] at this
      rw [this]
      congr 1
      rw [Bool.eq_iff_iff, okFrom_iff, swap_all l m h h9]
      exact ⟨fun g i hi => g i (by omega) (by omega), fun g j _ hj => g j (by omega)⟩
    · rw [if_pos (by simp; omega)]
      congr 1
      symm
      rw [Bool.eq_false_iff]
      exact fun e => h9 ((areSw_iff l m).1 e).1
  · rw [if_neg (by omega), spec_l06Swapped.j0, if_pos rfl]
    congr 1
    symm
    rw [Bool.eq_false_iff]
    exact fun e => h ((areSw_iff l m).1 e).2.2.2.length_eq.symm
theorem rdOf_nat (l : List Bool) (i : Nat) : rdOf false l (i : Int) = l.getD i false := by simp [rdOf]
theorem ring_loop {l m : List Int} (hw : Sw l m) (out : List (List Int)) (i : Nat) (hout : out.length ≤ 20) (res : List (List Int)) (f : Nat) : ∀ (met : List Bool) (ring : List Int) (kk : Nat), met.length = l.length → kk < l.length → met.count false < f → ring.length + met.count false ≤ 20 →
    ∀ K, 11 ≤ K → (∀ k, K ≤ k → spec_l06Rings.l0 k l m (out ++ [(ringL l m f met ring kk).1]) (ringL l m f met ring kk).2 (wrap64 ((i : Int) + 1)) = some res) → ∀ k, K + f ≤ k → spec_l06Rings.l1 k l m out met i ring kk = some res := by
  induction f with
  | zero => intro met ring kk _ _ h; omega
  | succ f ih =>
    intro met ring kk hml hkk hc hr K hK11 hK k hk
    obtain ⟨k, rfl⟩ : ∃ k', k = k' + 1 := ⟨k - 1, by omega⟩
    have h9 := hw.n9
    have hlen := hw.len
    rw [spec_l06Rings.l1, if_pos (by omega), if_pos (by omega), rdOf_nat]
    cases hm : met.getD kk false with
    | true =>
      rw [if_pos rfl, if_pos (by omega)]
      rw [ringL_stop l m _ met ring kk hm] at hK
      exact hK k (by omega)
    | false =>
      rw [if_neg (by decide), if_pos (by omega), if_pos (by omega), rd_nat, where_is l _ (by omega) k (by omega), Option.bind_some]
      have hsp := hw.nx_spec hkk
      have hxm : m.getD kk 0 ∈ m := by rw [List.getD_eq_getElem?_getD, List.getElem?_eq_getElem (show kk < m.length by omega)]; exact List.getElem_mem _
      obtain ⟨j, hj, ej, _⟩ := whereL_in (hw.mem _ hxm)
      have hcs := unmet_set met kk (by omega) hm
      rw [ringL_go l m f met ring kk hm, ej, Int.toNat_natCast] at hK
      rw [ej, Int.toNat_natCast]
      exact ih (met.set kk true) (ring ++ [(kk : Int)]) j (by rw [List.length_set, hml]) hj (by omega) (by simp; omega) K hK11 hK k (by omega)
theorem ringL_met {l m : List Int} (f : Nat) : ∀ (met : List Bool) (ring : List Int) (kk : Nat), (ringL l m f met ring kk).2.length = met.length := by
  induction f with
  | zero => intro met ring kk; rfl
  | succ f ih =>
    intro met ring kk
    rw [ringL]
    split
    · rfl
    · rw [ih, List.length_set]
theorem outs_loop {l m : List Int} (hw : Sw l m) (s : Nat) : ∀ (met : List Bool) (out : List (List Int)) (i : Nat), i + s = l.length → met.length = l.length → out.length ≤ i → ∀ k, 40 * s + 40 ≤ k → spec_l06Rings.l0 k l m out met i = some (outS l m s met out i) := by
  have h9 := hw.n9
  have hlen := hw.len
  induction s with
  | zero =>
    intro met out i hi hml ho k hk
    obtain ⟨k, rfl⟩ : ∃ k', k = k' + 1 := ⟨k - 1, by omega⟩
    rw [spec_l06Rings.l0, if_neg (by omega)]
    rfl
  | succ s ih =>
    intro met out i hi hml ho k hk
    obtain ⟨k, rfl⟩ : ∃ k', k = k' + 2 := ⟨k - 2, by omega⟩
    have g1 : (i : Int) < (l.length : Int) := by omega
    have g2 : (0 : Int) ≤ (i : Int) := by omega
    have g3 : (i : Int) < (met.length : Int) := by omega
    have g4 : (i : Int) < (m.length : Int) := by omega
    have g5 : i + 1 + s = l.length := by omega
    have g6 : out.length ≤ i + 1 := by omega
    have g7 : 40 * s + 40 ≤ k := by clear ih hw; omega
    have g8 : 40 * s + 40 + (l.length + 1) ≤ k := by clear ih hw; omega
    have g9 : i < l.length := by omega
    have g10 : out.length ≤ 20 := by omega
    have hcl := List.count_le_length (a := false) (l := met)
    have g11 : met.count false < l.length + 1 := by omega
    have g12 : ([] : List Int).length + met.count false ≤ 20 := by simp; omega
    have g13 : 11 ≤ 40 * s + 40 := by clear ih hw; omega
    have g14 : ∀ r : List Int, (out ++ [r]).length ≤ i + 1 := fun r => by simp; omega
    have ew : wrap64 ((i : Int) + 1) = ((i + 1 : Nat) : Int) := by rw [w64 (by omega) (by omega)]; omega
    clear hk hi ho
    rw [spec_l06Rings.l0, if_pos g1, if_pos g2, if_pos g3, rdOf_nat, rd_nat, rd_nat, outS]
    by_cases hm : met.getD i false = true
    · rw [if_pos hm, if_pos (Or.inl hm), spec_l06Rings.j1, if_pos rfl, ew]
      exact ih met out (i + 1) g5 hml g6 k g7
    · rw [if_neg hm, if_pos g4, spec_l06Rings.j1]
      by_cases he : l.getD i 0 = m.getD i 0
      · rw [if_pos (by rw [he]; simp), if_pos (Or.inr he), ew]
        exact ih met out (i + 1) g5 hml g6 k g7
      · rw [if_neg (by simpa using he), if_neg (show ¬ (met.getD i false = true ∨ l.getD i 0 = m.getD i 0) from fun h => h.elim hm he)]
        refine ring_loop hw out i g10 _ (l.length + 1) met [] i hml g9 g11 g12 (40 * s + 40) g13 (fun k' hk' => ?_) k g8
        rw [ew]
        exact ih _ _ (i + 1) g5 (by rw [ringL_met, hml]) (g14 _) k' hk'
theorem sRings_is {l m : List Int} (h : areSwB l m = true) (k : Nat) (hk : 400 ≤ k) : spec_l06Rings.f k l m = some (ringsI l m) := by
  have hw := Sw.of h
  have h9 := hw.n9
  unfold spec_l06Rings.f
  rw [if_pos (by omega), if_pos (by omega), rings_same h, Int.toNat_natCast]
  have := outs_loop hw l.length (List.replicate l.length false) [] 0 (by omega) (by simp) (by simp) k (by omega)
  rw [show ((0 : Nat) : Int) = 0 from rfl] at this
  exact this
end Go.Proofs.Ytgjpnamckkedfaa.Q
