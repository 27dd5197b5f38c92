/- impl.endless: the walk. -/
import Derived.Test.YtlcnjpibfjhibaaHRepeat
import Derived.Test.YtlcnjpibfjhibaaHTable
set_option linter.unusedVariables false
set_option linter.unusedSimpArgs false
namespace Go.Proofs.Ytlcnjpibfjhibaa.Q
open Go.RowKit Go.Proofs.YtlcnjpibfjhibaaW.PrintWords Go.Proofs.YtlcnjpibfjhibaaW.PrintLast Go.Proofs.YtlcnjpibfjhibaaW.PrintMore
theorem RowN.C {w : World} {g : Nat} {xs : List Int} (h : RowN w g xs) (n : Nat) (hl : xs.length = n) (hn : n ≤ 1000000) : Kd.C (Kd.int .i64) w (some ⟨g, 0, none⟩) n xs := by
  refine ⟨hl, by omega, fun _ => ⟨_, rfl, fun i x hi => ?_⟩⟩
  have hil : i < xs.length := (List.getElem?_eq_some_iff.1 hi).1
  have hx : xs.getD i 0 = x := by rw [List.getD_eq_getElem?_getD, hi]; rfl
  have hc := h.cell i hil
  rw [hx] at hc
  refine ⟨[.int .i64 x], rfl, rfl, fun q u hu => ?_⟩
  match q, hu with
  | 0, hu =>
    simp at hu
    rw [← hu]
    show w.cell? ((⟨g, 0, none⟩ : Addr).add (i * 1 + 0)) = _
    rw [Nat.mul_one, Nat.add_zero, add_plain]
    exact hc
  | q + 1, hu => simp at hu
set_option maxHeartbeats 4000000 in
set_option maxRecDepth 100000 in
theorem endless_any (A : Option Addr) (c n : Nat) (hn : 1 ≤ n) (hn2 : n ≤ 1000) (hc : n ≤ c) (w : World) :
    Calls Try.prog 50 #[.slice A n c] w fun e w' => ∃ g : Nat, e = .returned (.agg #[.slice A n c, .slice (some ⟨g, 0, none⟩) n n]) ∧ w.heap.size ≤ g ∧ RowN w' g (List.replicate n 1099511627776) ∧ Below w.heap.size w w' := by
  go_enter Try.func50, Try.ntmps50
  obtain ⟨W1, hW1⟩ : ∃ W1, W1 = (w.alloc (.cells #[.slice none 0 0, .slice none 0 0] 58)).alloc (.cells #[.int .i64 1099511627776] 2) := ⟨_, rfl⟩
  have HB1 : Aside0 (Below w.heap.size w W1) := ⟨by rw [hW1]; exact ((Below.refl _ _).alloc (Nat.le_refl _) _).alloc (by simp) _⟩
  have HR1 : Aside0 (RowN W1 (w.heap.size + 1) [1099511627776]) := ⟨⟨by rw [hW1]; exact new_at _ _ _ (by simp)⟩⟩
  have HC1 : Aside0 (W1.heap[w.heap.size]? = some (.cells #[.slice none 0 0, .slice none 0 0] 58 (0, 0))) := ⟨by rw [hW1]; exact (((Below.refl (w.heap.size + 1) (w.alloc _)).alloc (by simp) _).block _ (by omega)).trans (blk_new w _)⟩
  have HE1 := Aside0.mk hW1
  clear hW1
  go_wp2_with ((go_at_call 73; rw [← HE1.out]; refine (repeat_any _ _ _ n hn hn2 W1 (HR1.out.C 1 rfl (by omega)) (Nat.le_refl _)).mono ?_; rintro e w2 ⟨g, rfl, hg, hr2, hb2⟩; have hsz1 := HB1.out.size; have hlt1 := HR1.out.lt; have hgw : w.heap.size < g := (by omega); have HC2 : Aside0 (w2.heap[w.heap.size]? = some (.cells #[.slice none 0 0, .slice none 0 0] 58 (0, 0))) := ⟨(hb2.block _ (by omega)).trans HC1.out⟩; have HB2 : Aside0 (Below w.heap.size w w2) := ⟨HB1.out.trans (hb2.mono (by omega))⟩; have HR2 := Aside0.mk hr2; have c0 : w2.cell? ⟨w.heap.size, 0, none⟩ = some (.slice none 0 0) := (by rw [cell_of_row w2 _ 0 _ _ (0, 0) HC2.out]; rfl); have c1 : w2.cell? ⟨w.heap.size, 1, none⟩ = some (.slice none 0 0) := (by rw [cell_of_row w2 _ 1 _ _ (0, 0) HC2.out]; rfl); have f0 : w2.frozen? ⟨w.heap.size, 0, none⟩ = false := frozen_of_row w2 _ 0 _ _ HC2.out; have f1 : w2.frozen? ⟨w.heap.size, 1, none⟩ = false := frozen_of_row w2 _ 1 _ _ HC2.out; have hlt2 : w.heap.size < w2.heap.size := (Array.getElem?_eq_some_iff.1 HC2.out).1; clear hr2 hb2))
  obtain ⟨W3, hW3⟩ : ∃ W3, W3 = w2.setCell ⟨w.heap.size, 0, none⟩ (.slice A n c) := ⟨_, rfl⟩
  have k3 : W3.heap[w.heap.size]? = some (.cells #[.slice A n c, .slice none 0 0] 58 (0, 0)) := by rw [hW3]; exact heap_setCell_same w2 _ 0 _ _ _ HC2.out
  have k4 : (W3.setCell ⟨w.heap.size, 1, none⟩ (.slice (some ⟨g, 0, none⟩) n n)).heap[w.heap.size]? = some (.cells #[.slice A n c, .slice (some ⟨g, 0, none⟩) n n] 58 (0, 0)) := heap_setCell_same W3 _ 1 _ _ _ k3
  have e0 : W3.cell? ⟨w.heap.size, 0, none⟩ = some (.slice A n c) := by rw [cell_of_row W3 _ 0 _ _ (0, 0) k3]; rfl
  have e1 : (W3.setCell ⟨w.heap.size, 1, none⟩ (.slice (some ⟨g, 0, none⟩) n n)).cell? ⟨w.heap.size, 1, none⟩ = some (.slice (some ⟨g, 0, none⟩) n n) := by rw [cell_of_row _ _ 1 _ _ (0, 0) k4]; rfl
  have HF : RowN (W3.setCell ⟨w.heap.size, 1, none⟩ (.slice (some ⟨g, 0, none⟩) n n)) g (List.replicate n 1099511627776) := by
    rw [hW3]
    exact (HR2.out.far w.heap.size 0 _ (by omega)).far w.heap.size 1 _ (by omega)
  have HBF : Below w.heap.size w (W3.setCell ⟨w.heap.size, 1, none⟩ (.slice (some ⟨g, 0, none⟩) n n)) := by
    rw [hW3]
    exact (HB2.out.setCell (Nat.le_refl _) _).setCell (Nat.le_refl _) _
  rw [← hW3]
  refine bodyPost_ret (v := .agg #[.slice A n c, .slice (some ⟨g, 0, none⟩) n n]) (by simp [results, Try.results50, go_sem, e0, e1]) rfl ⟨g, rfl, by omega, ?_, ?_⟩
  · exact HF
  · exact HBF
end Go.Proofs.Ytlcnjpibfjhibaa.Q
