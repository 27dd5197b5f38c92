/- impl's indices; the places below n as a row; slices.SortStableFunc at an empty list. -/
import Derived.Test.YtlefddghiiigeaaHSort
import Derived.Deep.RegionHeldLaw
set_option linter.unusedVariables false
set_option linter.unusedSimpArgs false
namespace Go.Proofs.Ytlefddghiiigeaa.Q
open Go.RowKit Go.Proofs.YtlefddghiiigeaaW.PrintWords Go.Proofs.YtlefddghiiigeaaW.PrintLast Go.Proofs.YtlefddghiiigeaaW.PrintMore
open Go.Sort (Holds putRow mapBlock holds_putRow)
attribute [local go_sem] max2_int min2_int max_two min_two
theorem infoI64 : (Try.prog.info? 2).map (fun i => (i.zero, i.size, i.bytes)) = some (some (.int .i64 0), 1, 8) := by kernel_rfl
def idxL (n : Nat) : List Int := (List.range n).map fun (k : Nat) => (k : Int)
theorem idxL_length (n : Nat) : (idxL n).length = n := by simp [idxL]
theorem idxL_succ (n : Nat) : idxL (n + 1) = idxL n ++ [(n : Int)] := by simp [idxL, List.range_succ]
theorem own_empty (W : World) (base : Nat) (e : TypeId) (b : Nat) (hb : b = W.heap.size) (hbase : base ≤ W.heap.size) : (W.alloc (.cells #[] e)).ownsRow base e 1 (.slice (some ⟨b, 0, none⟩) 0 0) ([] : List Int).length (nums .i64 []) := by
  subst hb
  exact own_lit W base e .i64 [] hbase (by simp)
set_option maxHeartbeats 1000000 in
set_option maxRecDepth 100000 in
theorem indices_is (n : Nat) (hn : n ≤ 1048576) (w : World) : Calls Try.prog 42 #[.int .i64 n] w fun e w' => ∃ v : Value, e = .returned v ∧ w'.ownsRow w.heap.size 2 1 v (idxL n).length (nums .i64 (idxL n)) ∧ Below w.heap.size w w' := by
  have HO0 : Aside0 ((w.alloc (.cells #[] 2)).ownsRow w.heap.size 2 1 (.slice (some ⟨w.heap.size, 0, none⟩) 0 0) (idxL 0).length (nums .i64 (idxL 0))) := ⟨own_empty w w.heap.size 2 w.heap.size rfl (Nat.le_refl _)⟩
  have HB0 : Aside0 (Below w.heap.size w (w.alloc (.cells #[] 2))) := ⟨(Below.refl _ _).alloc (Nat.le_refl _) _⟩
  go_enter Try.func42, Try.ntmps42
  go_wp2
  go_loopg [3, 7] n (fun gg v3 v7 wr => ∃ (kk : Nat), kk ≤ n ∧ n - kk ≤ gg ∧ v7 = .int .i64 kk ∧ Aside0 (wr.ownsRow w.heap.size 2 1 v3 (idxL kk).length (nums .i64 (idxL kk))) ∧ Aside0 (Below w.heap.size w wr))
  case atStart => exact ⟨0, by omega, by omega, rfl, HO0, HB0⟩
  case round =>
    obtain ⟨kk, hkk, hgg, rfl, HO, BW⟩ := hrel
    by_cases hlt : kk < n
    · have hltz : (kk : Int) < (n : Int) := by omega
      have hl := idxL_length kk
      go_wp2_with (at_builtin; refine print_append_num (w0 := w) w.heap.size rfl (.tmp 10) (.tmp 12) 26 2 .i64 8 rfl Try.underlying26 infoI64 (by omega) _ (idxL kk) ((kk : Int)) rfl (by go_simp) HO.out BW.out BW.out.size (by omega) ?_; intro v1 w3 hown1 hB1 hg1 hat1)
      rw [← idxL_succ] at hown1
      have HO1 := Aside0.mk hown1
      have HB1 := Aside0.mk hB1
      clear hown1 hB1 hg1 hat1 hl
      go_wp2
      go_roundg (n - (kk + 1))
      case measure => omega
      case rel => exact ⟨kk + 1, by omega, by omega, by go_num, HO1, HB1⟩
    · have hltz : ¬ (kk : Int) < (n : Int) := by omega
      have hk : kk = n := by omega
      subst hk
      go_wp2
      go_ret
      exact ⟨_, rfl, HO.out, BW.out⟩
/-- The places below n. -/
def idxF (n : Nat) : Array (Fin (n - 1 + 1)) := Array.ofFn fun i : Fin n => ⟨i.val, by omega⟩
theorem idxF_val (n j : Nat) (h : j < n) : ((idxF n)[j]!).val = j := by
  unfold idxF
  rw [getElem!_pos _ j (by simpa using h)]
  simp
theorem idxF_size (n : Nat) : (idxF n).size = n := by simp [idxF]
theorem insInner_size {α : Type} [Inhabited α] (lt : α → α → Bool) (a : Nat) : ∀ (j : Nat) (d : Array α), (Sort.insInner lt a j d).size = d.size
  | 0, d => rfl
  | j + 1, d => by
    rw [Sort.insInner]
    split
    · rw [insInner_size lt a j, Sort.size_swp]
    · rfl
theorem insOuter_size {α : Type} [Inhabited α] (lt : α → α → Bool) (a b : Nat) : ∀ (n i : Nat) (d : Array α), b - i = n → (Sort.insOuter lt a b i d).size = d.size
  | 0, i, d, h => by rw [insOuter_stop _ _ _ _ _ (by omega)]
  | n + 1, i, d, h => by rw [insOuter_go _ _ _ _ _ (by omega), insOuter_size lt a b n (i + 1) _ (by omega), insInner_size]
theorem insertionSort_size {α : Type} [Inhabited α] (lt : α → α → Bool) (d : Array α) (a b : Nat) : (Sort.insertionSort lt d a b).size = d.size := insOuter_size lt a b _ _ d rfl
theorem pw_below_alloc1 {V W : World} {o : Obj} (h : Below V.heap.size V W) : Below V.heap.size V (W.alloc o) := h.alloc h.size o
theorem pw_below_call1 {V W W2 : World} (h : Below V.heap.size V W) (hb : Below W.heap.size W W2) : Below V.heap.size V W2 := h.trans (hb.mono h.size)
theorem holds_idx {n : Nat} {W : World} {g : Nat} {cur : Array Value} {T : TypeId} (hh : W.heap[g]? = some (.cells cur T (0, 0))) (ht : cur.toList.take (n * 1) = nums .i64 (idxL n)) : Holds encF W g 0 (idxF n) := by
  intro j hj
  have hj' : j < n := by rwa [idxF_size] at hj
  rw [Nat.zero_add]
  refine ⟨?_, frozen_of_row W g j _ _ hh⟩
  rw [cell_of_row W g j cur T (0, 0) hh]
  have h1 : cur[j]? = (nums .i64 (idxL n))[j]? := by
    rw [← ht, List.getElem?_take, if_pos (by omega), Array.getElem?_toList]
  rw [h1]
  unfold encF
  rw [idxF_val n j hj']
  simp [nums, idxL, hj']
theorem putRow_grown {α : Type} [Inhabited α] (enc : α → Value) (w : World) (b off : Nat) (d : Array α) (q : Nat) : w.grownBy ((putRow enc w b off d).drewN q) (some b) := by
  refine ⟨rfl, rfl, rfl, ?_, fun k hk hne => ?_⟩
  · show _ ≤ (putRow enc w b off d).heap.size
    unfold putRow mapBlock
    simp
  · show (putRow enc w b off d).heap[k]? = _
    unfold putRow mapBlock
    simp only [Array.getElem?_modify]
    rw [if_neg (by intro e; exact hne (by rw [e]))]
set_option maxHeartbeats 1000000 in
set_option maxRecDepth 100000 in
theorem stable_none (g : Nat) (cb : Array Value) (A : Option Addr) (c : Nat) (w : World) :
    Calls Try.prog 43 #[.slice A 0 c, .func (.func g) #[] cb] w fun e w' => e = .returned (.tuple #[]) ∧ w = w' := by
  have K0 : Calls Try.prog 59 #[.slice A 0 c, .int .i64 0, .int .i64 0, .func (.func g) #[] cb] w fun e w' => e = .returned (.tuple #[]) ∧ w = w' := by
    go_enter Try.func59, Try.ntmps59
    go_wp2
    go_loopg [8] 0 (fun gg v8 wr => v8 = .int .i64 1 ∧ wr = w)
    case atStart => exact ⟨rfl, rfl⟩
    case round =>
      obtain ⟨rfl, rfl⟩ := hrel
      go_wp2
      go_end0
      exact ⟨rfl, rfl⟩
  have K : Calls Try.prog 53 #[.slice A 0 c, .int .i64 0, .func (.func g) #[] cb] w fun e w' => e = .returned (.tuple #[]) ∧ w = w' := by
    go_enter Try.func53, Try.ntmps53
    go_wp2
    go_loopg [7, 8] 0 (fun gg v7 v8 wr => v7 = .int .i64 0 ∧ v8 = .int .i64 20 ∧ wr = w)
    case atStart => exact ⟨rfl, rfl, rfl⟩
    case round =>
      obtain ⟨rfl, rfl, rfl⟩ := hrel
      go_wp2_with fail
      refine K0.mono ?_
      rintro e w2 ⟨rfl, rfl⟩
      go_wp2
      go_loopg [6] 0 (fun gg v6 wr2 => v6 = .int .i64 20 ∧ wr2 = wr)
      case atStart => exact ⟨rfl, rfl⟩
      case round =>
        obtain ⟨rfl, rfl⟩ := hrel
        go_wp2
        go_end0
        exact ⟨rfl, rfl⟩
  go_enter Try.func43, Try.ntmps43
  go_wp2_with fail
  refine K.mono ?_
  rintro e w2 ⟨rfl, rfl⟩
  go_wp2
  go_end0
  exact ⟨rfl, rfl⟩
end Go.Proofs.Ytlefddghiiigeaa.Q
/- The order in which vouchers end: the kit's insertion sort by a key is the sort by key and place. -/
set_option linter.unusedVariables false
set_option linter.unusedSimpArgs false
namespace Go.Proofs.Ytlefddghiiigeaa.Q
open Go.RowKit
open Go.Sort (insInner insOuter swp size_swp swp_other)
section
variable {α : Type} [Inhabited α] (lt lt2 : α → α → Bool) (val : α → Nat)
theorem swp_left (d : Array α) (i j : Nat) (hi : i < d.size) (hj : j < d.size) : (swp d i j)[j]! = d[i]! := by
  unfold swp
  rw [getElem!_pos _ j (by simpa using hj), Array.getElem_setIfInBounds, if_pos rfl]
  simpa using hj
theorem swp_right (d : Array α) (i j : Nat) (hi : i < d.size) (hj : j < d.size) (hne : i ≠ j) : (swp d i j)[i]! = d[j]! := by
  unfold swp
  rw [getElem!_pos _ i (by simpa using hi), Array.getElem_setIfInBounds, if_neg (fun e => hne e.symm), Array.getElem_setIfInBounds, if_pos rfl]
  · simpa using hi
  · simpa using hi
theorem insInner_congr (a : Nat) (h : ∀ x y, val y < val x → lt x y = lt2 x y) : ∀ (j : Nat) (d : Array α), j < d.size → (∀ q, a ≤ q → q < j → val d[q]! < val d[j]!) → insInner lt a j d = insInner lt2 a j d
  | 0, d, _, _ => rfl
  | j + 1, d, hj, hd => by
    rw [insInner, insInner]
    by_cases ha : j + 1 > a
    · rw [h _ _ (hd j (by omega) (by omega))]
      split
      · refine insInner_congr a h j _ (by rw [size_swp]; omega) (fun q h1 h2 => ?_)
        rw [swp_left d (j + 1) j hj (by omega), swp_other d (j + 1) j q (by omega) (by omega)]
        exact hd q h1 (by omega)
      · rfl
    · simp [ha]
theorem insInner_in (a : Nat) : ∀ (j : Nat) (d : Array α), j < d.size → (∀ q, q < a ∨ j < q → (insInner lt a j d)[q]! = d[q]!) ∧ (∀ q, a ≤ q → q ≤ j → ∃ q', a ≤ q' ∧ q' ≤ j ∧ (insInner lt a j d)[q]! = d[q']!)
  | 0, d, _ => ⟨fun _ _ => rfl, fun q h1 h2 => ⟨q, h1, h2, rfl⟩⟩
  | j + 1, d, hj => by
    rw [insInner]
    split
    · rename_i hc
      have ha : j + 1 > a := by
        simp only [Bool.and_eq_true, decide_eq_true_eq] at hc
        exact hc.1
      obtain ⟨h1, h2⟩ := insInner_in a j (swp d (j + 1) j) (by rw [size_swp]; omega)
      refine ⟨fun q hq => ?_, fun q h3 h4 => ?_⟩
      · rw [h1 q (by omega), swp_other _ _ _ _ (by omega) (by omega)]
      · by_cases hq : q = j + 1
        · subst hq
          refine ⟨j, by omega, by omega, ?_⟩
          rw [h1 _ (by omega), swp_right d (j + 1) j hj (by omega) (by omega)]
        · obtain ⟨q', h5, h6, h7⟩ := h2 q h3 (by omega)
          by_cases hq' : q' = j
          · subst hq'
            exact ⟨q' + 1, by omega, by omega, by rw [h7, swp_left d (q' + 1) q' hj (by omega)]⟩
          · exact ⟨q', h5, by omega, by rw [h7, swp_other _ _ _ _ (by omega) hq']⟩
    · exact ⟨fun _ _ => rfl, fun q h1 h2 => ⟨q, h1, h2, rfl⟩⟩
theorem insOuter_congr (a b : Nat) (h : ∀ x y, val y < val x → lt x y = lt2 x y) : ∀ (n i : Nat) (d : Array α), b - i = n → b ≤ d.size → (∀ p, i ≤ p → p < b → ∀ q, a ≤ q → q < p → val d[q]! < val d[p]!) → insOuter lt a b i d = insOuter lt2 a b i d
  | 0, i, d, hn, _, _ => by rw [insOuter_stop _ _ _ _ _ (by omega), insOuter_stop _ _ _ _ _ (by omega)]
  | n + 1, i, d, hn, hb, hd => by
    have hib : i < b := by omega
    have hid : i < d.size := Nat.lt_of_lt_of_le hib hb
    rw [insOuter_go _ _ _ _ _ hib, insOuter_go _ _ _ _ _ hib, insInner_congr lt lt2 val a h i d hid (hd i (Nat.le_refl _) hib)]
    obtain ⟨h1, h2⟩ := insInner_in lt2 a i d hid
    have hsz : (insInner lt2 a i d).size = d.size := insInner_size lt2 a i d
    refine insOuter_congr a b h n (i + 1) _ (by omega) (by rw [hsz]; exact hb) (fun p hp1 hp2 q hq1 hq2 => ?_)
    rw [h1 p (by omega)]
    by_cases hq : q ≤ i
    · obtain ⟨q', h3, h4, h5⟩ := h2 q hq1 hq
      rw [h5]
      exact hd p (by omega) hp2 q' h3 (by omega)
    · rw [h1 q (by omega)]
      exact hd p (by omega) hp2 q hq1 hq2
end
/-- Which of two vouchers ends first; of two that end at once, the first. -/
def lexB (key : Nat → Int) (x y : Nat) : Prop := key x < key y ∨ (key x = key y ∧ x < y)
instance (key : Nat → Int) (x y : Nat) : Decidable (lexB key x y) := by unfold lexB; infer_instance
theorem lexB_trans {key : Nat → Int} {x y z : Nat} (h1 : lexB key x y) (h2 : lexB key y z) : lexB key x z := by
  unfold lexB at *
  omega
theorem lexB_ntrans {key : Nat → Int} {x y z : Nat} (h1 : ¬ lexB key x y) (h2 : ¬ lexB key y z) : ¬ lexB key x z := by
  unfold lexB at *
  omega
theorem lexB_irr {key : Nat → Int} {x : Nat} : ¬ lexB key x x := by
  unfold lexB
  omega
theorem lexB_asym {key : Nat → Int} {x y : Nat} (h1 : lexB key x y) : ¬ lexB key y x := by
  unfold lexB at *
  omega
theorem lexB_swo (n : Nat) (key : Nat → Int) : Sort.SWO (fun (x y : Fin (n - 1 + 1)) => decide (lexB key x.val y.val)) := by
  let lt2 : Fin (n - 1 + 1) → Fin (n - 1 + 1) → Bool := fun x y => decide (lexB key x.val y.val)
  show Sort.SWO lt2
  refine ⟨fun x => ?_, fun x y z => ?_, fun x y z => ?_⟩
  · show decide (lexB key x.val x.val) = false
    simp only [decide_eq_false_iff_not, lexB]; omega
  · show decide (lexB key x.val y.val) = true → decide (lexB key y.val z.val) = true → decide (lexB key x.val z.val) = true
    intro h1 h2
    exact decide_eq_true (lexB_trans (of_decide_eq_true h1) (of_decide_eq_true h2))
  · show decide (lexB key x.val y.val) = false → decide (lexB key y.val z.val) = false → decide (lexB key x.val z.val) = false
    intro h1 h2
    exact decide_eq_false (lexB_ntrans (of_decide_eq_false h1) (of_decide_eq_false h2))
theorem ordered_of {n : Nat} {key : Nat → Int} {d : Array (Fin (n - 1 + 1))} (hp : Sort.PermIn 0 n (idxF n) d) (hs : Sort.SortedIn (fun (x y : Fin (n - 1 + 1)) => decide (lexB key x.val y.val)) 0 n d) :
    (d.toList.map (·.val)).Perm (List.range n) ∧ (d.toList.map (·.val)).Pairwise (lexB key) := by
  obtain ⟨h1, h2, h3⟩ := hp
  rw [idxF_size] at h1
  have hr : (idxF n).toList.map (·.val) = List.range n := by
    apply List.ext_getElem
    · simp [idxF_size]
    · intro i h4 h5
      simp [idxF]
  have hperm : (d.toList.map (·.val)).Perm (List.range n) := by
    rw [← hr]
    refine List.Perm.map _ ?_
    have e1 : (d.extract 0 n).toList = d.toList := by
      rw [Array.toList_extract, List.extract_eq_take_drop]
      rw [Nat.sub_zero, List.drop_zero]
      exact List.take_of_length_le (by rw [Array.length_toList]; omega)
    have e2 : ((idxF n).extract 0 n).toList = (idxF n).toList := by
      rw [Array.toList_extract, List.extract_eq_take_drop]
      have := idxF_size n
      rw [Nat.sub_zero, List.drop_zero]
      exact List.take_of_length_le (by rw [Array.length_toList]; omega)
    rw [e1, e2] at h3
    exact h3
  refine ⟨hperm, ?_⟩
  have hnd : (d.toList.map (·.val)).Nodup := hperm.nodup_iff.2 List.nodup_range
  rw [List.pairwise_iff_getElem]
  intro i j hi hj hij
  have hi' : i < d.size := by simpa using hi
  have hj' : j < d.size := by simpa using hj
  have := hs i j (Nat.zero_le _) hij (by omega)
  rw [getElem!_pos _ i hi', getElem!_pos _ j hj'] at this
  simp only [decide_eq_false_iff_not] at this
  have hne : (d.toList.map (·.val))[i] ≠ (d.toList.map (·.val))[j] := by
    intro e
    have := List.pairwise_iff_getElem.1 hnd i j hi hj hij
    exact this e
  simp only [List.getElem_map, Array.getElem_toList] at hne ⊢
  unfold lexB at this ⊢
  omega
/-- The places below n, sorted by a key. -/
theorem sortedBy (n : Nat) (key : Nat → Int) (cf : Fin (n - 1 + 1) → Fin (n - 1 + 1) → Int) (hcf : ∀ x y, decide (cf x y < 0) = decide (key x.val < key y.val)) :
    ((Sort.insertionSort (ltF cf) (idxF n) 0 n).toList.map (·.val)).Perm (List.range n) ∧ ((Sort.insertionSort (ltF cf) (idxF n) 0 n).toList.map (·.val)).Pairwise (lexB key) := by
  let lt2 : Fin (n - 1 + 1) → Fin (n - 1 + 1) → Bool := fun x y => decide (lexB key x.val y.val)
  have e : Sort.insertionSort (ltF cf) (idxF n) 0 n = Sort.insertionSort lt2 (idxF n) 0 n := by
    unfold Sort.insertionSort
    refine insOuter_congr (ltF cf) lt2 (fun x => x.val) 0 n (fun x y hxy => ?_) _ _ _ rfl (by rw [idxF_size]; exact Nat.le_refl _) (fun p hp1 hp2 q hq1 hq2 => ?_)
    · show decide (cf x y < 0) = decide (lexB key x.val y.val)
      rw [hcf]
      unfold lexB
      congr 1
      simp only [eq_iff_iff]
      constructor
      · exact fun h => .inl h
      · rintro (h | ⟨_, h⟩)
        · exact h
        · omega
    · show ((idxF n)[q]!).val < ((idxF n)[p]!).val
      rw [idxF_val n q (by omega), idxF_val n p (by omega)]
      exact hq2
  rw [e]
  obtain ⟨hp, hs⟩ := Sort.insertionSort_holds (lt := lt2) (lexB_swo n key) (idxF n) 0 n (Nat.zero_le _) (by rw [idxF_size]; exact Nat.le_refl _)
  exact ordered_of hp hs
end Go.Proofs.Ytlefddghiiigeaa.Q
