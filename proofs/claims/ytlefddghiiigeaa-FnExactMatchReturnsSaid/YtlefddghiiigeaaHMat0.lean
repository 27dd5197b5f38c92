/- The memory of matches: the box, the order of the orders, how many pieces they have; two slices that grow. -/
import Derived.Test.YtlefddghiiigeaaMatDef
set_option linter.unusedVariables false
set_option linter.unusedSimpArgs false
namespace Go.Proofs.Ytlefddghiiigeaa.Q
open Go.RowKit Go.Proofs.YtlefddghiiigeaaW.PrintWords Go.Proofs.YtlefddghiiigeaaW.PrintLast Go.Proofs.YtlefddghiiigeaaW.PrintMore
theorem infoI16m : (Try.prog.info? 48).map (fun i => (i.zero, i.size, i.bytes)) = some (some (.int .i16 0), 1, 2) := by kernel_rfl
theorem cell_block {w w1 : World} {b : Nat} (h : w1.heap[b]? = w.heap[b]?) (o : Nat) : w1.cell? ⟨b, o, none⟩ = w.cell? ⟨b, o, none⟩ := by
  unfold World.cell?
  simp only [h]
theorem frozen_block {w w1 : World} {b : Nat} (h : w1.heap[b]? = w.heap[b]?) (o : Nat) : w1.frozen? ⟨b, o, none⟩ = w.frozen? ⟨b, o, none⟩ := by
  unfold World.frozen?
  simp only [h]
theorem setCell_grown (w : World) (g i : Nat) (v : Value) : w.grownBy (w.setCell ⟨g, i, none⟩ v) (some g) :=
  ⟨rfl, rfl, rfl, by rw [World.size_setCell]; exact Nat.le_refl _, fun k hk hne => Below.heap_setCell w ⟨g, i, none⟩ v k (fun e => hne (by rw [e]))⟩
/-- What lies below b2. -/
structure Low (A : Option Addr) (c n B g8 g9 b2 : Nat) (ord : List Nat) (w : World) (h : List Int) : Prop where
  box : w.cell? ⟨B, 0, none⟩ = some (.slice A n c)
  ord : ∀ j, j < n → w.cell? ⟨g8, j, none⟩ = some (.int .i64 ((ord.getD j 0 : Nat) : Int))
  hav : ∀ j, j < n → w.cell? ⟨g9, j, none⟩ = some (.int .i16 (h.getD j 0)) ∧ w.frozen? ⟨g9, j, none⟩ = false
  bB : B < b2
  b8 : 0 < n → g8 < b2
  b9 : 0 < n → g9 < b2
  n8 : 0 < n → g8 ≠ g9
  n0 : B ≠ g9
  len : h.length = n
section
variable {A : Option Addr} {c n B g8 g9 b2 : Nat} {ord : List Nat} {w w1 : World} {h : List Int}
theorem Low.move (H : Low A c n B g8 g9 b2 ord w h) (hm : ∀ k, k < b2 → w1.heap[k]? = w.heap[k]?) : Low A c n B g8 g9 b2 ord w1 h :=
  ⟨by rw [cell_block (hm B H.bB)]; exact H.box, fun j hj => by rw [cell_block (hm g8 (H.b8 (by omega)))]; exact H.ord j hj,
    fun j hj => by rw [cell_block (hm g9 (H.b9 (by omega))), frozen_block (hm g9 (H.b9 (by omega)))]; exact H.hav j hj, H.bB, H.b8, H.b9, H.n8, H.n0, H.len⟩
theorem Low.below (H : Low A c n B g8 g9 b2 ord w h) (hs : b2 ≤ w.heap.size) (hb : Below w.heap.size w w1) : Low A c n B g8 g9 b2 ord w1 h := H.move fun k hk => hb.block k (by omega)
theorem Low.drewN (H : Low A c n B g8 g9 b2 ord w h) (m : Nat) : Low A c n B g8 g9 b2 ord (w.drewN m) h := H.move fun _ _ => rfl
theorem Low.grown (H : Low A c n B g8 g9 b2 ord w h) (hs : b2 ≤ w.heap.size) {row : Option Nat} (hg : w.grownBy w1 row) (hr : ∀ k, row = some k → b2 ≤ k) : Low A c n B g8 g9 b2 ord w1 h :=
  H.move fun k hk => hg.block k (by omega) (fun e => by have := hr k e.symm; omega)
theorem Low.set (H : Low A c n B g8 g9 b2 ord w h) (i : Nat) (hi : i < n) (x : Int) : Low A c n B g8 g9 b2 ord (w.setCell ⟨g9, i, none⟩ (.int .i16 x)) (h.set i x) := by
  have h0 : 0 < n := by omega
  refine ⟨?_, fun j hj => ?_, fun j hj => ?_, H.bB, H.b8, H.b9, H.n8, H.n0, by rw [List.length_set]; exact H.len⟩
  · rw [World.cell?_setCell_far _ _ _ _ (show g9 ≠ B from fun e => H.n0 e.symm)]; exact H.box
  · rw [World.cell?_setCell_far _ _ _ _ (show g9 ≠ g8 from fun e => H.n8 h0 e.symm)]; exact H.ord j hj
  · obtain ⟨h1, h2⟩ := H.hav j hj
    refine ⟨?_, by rw [World.frozen?_setCell]; exact h2⟩
    rw [getD_set]
    by_cases e : i = j
    · subst e
      rw [if_pos ⟨rfl, by rw [H.len]; exact hi⟩]
      exact World.cell?_setCell_same _ _ _ h1
    · rw [if_neg (fun q => e q.1), World.cell?_setCell_other _ _ _ _ (show (⟨g9, i, none⟩ : Addr) ≠ ⟨g9, j, none⟩ by intro q; injection q with q1 q2; exact e q2)]
      exact h1
end
/-- The matches and what is left over: two slices that grow, apart. -/
structure Duo (base b2 : Nat) (w0 w : World) (v v' : Value) (xs : List S53) (ys : List Int) : Prop where
  l : Kd.R k53 53 w base (fun k => b2 ≤ k) v xs
  r : Kd.R (Kd.int .i64) 2 w base (fun k => b2 ≤ k) v' ys
  ne : ∀ j, v.ownBlock = some j → v'.ownBlock ≠ some j
  below : Below base w0 w
  size : b2 ≤ w.heap.size
  bb : base ≤ b2
section
variable {base b2 : Nat} {w0 w w1 : World} {v v1 v' : Value} {xs xs1 : List S53} {ys ys1 : List Int}
theorem Duo.via (H : Duo base b2 w0 w v v' xs ys) (hb : Below w.heap.size w w1) : Duo base b2 w0 w1 v v' xs ys :=
  ⟨Kd.R_below H.l hb, Kd.R_below H.r hb, H.ne, H.below.trans (hb.mono (Nat.le_trans H.bb H.size)), Nat.le_trans H.size hb.size, H.bb⟩
theorem Duo.low (H : Duo base b2 w0 w v v' xs ys) {g : Nat} (hg : w.grownBy w1 (some g)) (h2 : g < b2) (h3 : base ≤ g) : Duo base b2 w0 w1 v v' xs ys :=
  ⟨Kd.R_grown1 H.l rfl hg (fun e => by have := H.l.1 g e.symm; omega), Kd.R_grown1 H.r rfl hg (fun e => by have := H.r.1 g e.symm; omega), H.ne,
    H.below.grown hg (Nat.le_trans H.bb H.size) (fun j hj => by cases hj; omega), Nat.le_trans H.size hg.size, H.bb⟩
theorem Duo.left (H : Duo base b2 w0 w v v' xs ys) (hR : Kd.R k53 53 w1 base (fun k => b2 ≤ k) v1 xs1) (hB : Below base w0 w1) (hg : w.grownBy w1 v.ownBlock) (hat : v1.ownBlock = v.ownBlock ∨ ∃ b, v1.ownBlock = some b ∧ w.heap.size ≤ b) : Duo base b2 w0 w1 v1 v' xs1 ys := by
  have hr : Kd.R (Kd.int .i64) 2 w1 base (fun k => b2 ≤ k) v' ys := by
    cases hv : v.ownBlock with
    | none => exact Kd.R_grown H.r hg (fun k _ => by rw [hv]; simp)
    | some j => exact Kd.R_grown1 H.r rfl hg (fun e => by rw [hv] at e; exact H.ne j hv e.symm)
  refine ⟨hR, hr, fun j hj => ?_, hB, Nat.le_trans H.size hg.size, H.bb⟩
  · rcases hat with hat | ⟨b, hat, hb⟩
    · exact H.ne j (by rw [← hat, hj])
    · intro h2
      have := Kd.R_lt H.r j h2
      rw [hj] at hat
      injection hat with hat
      omega
theorem Duo.right (H : Duo base b2 w0 w v v' xs ys) (hR : Kd.R (Kd.int .i64) 2 w1 base (fun k => b2 ≤ k) v1 ys1) (hB : Below base w0 w1) (hg : w.grownBy w1 v'.ownBlock) (hat : v1.ownBlock = v'.ownBlock ∨ ∃ b, v1.ownBlock = some b ∧ w.heap.size ≤ b) : Duo base b2 w0 w1 v v1 xs ys1 := by
  have hl : Kd.R k53 53 w1 base (fun k => b2 ≤ k) v xs := by
    cases hv : v'.ownBlock with
    | none => exact Kd.R_grown H.l hg (fun k _ => by rw [hv]; simp)
    | some j => exact Kd.R_grown1 H.l rfl hg (fun e => by rw [hv] at e; exact H.ne j e.symm hv)
  refine ⟨hl, hR, fun j hj => ?_, hB, Nat.le_trans H.size hg.size, H.bb⟩
  rcases hat with hat | ⟨b, hat, hb⟩
  · rw [hat]; exact H.ne j hj
  · intro h2
    have := Kd.R_lt H.l j hj
    rw [h2] at hat
    injection hat with hat
    omega
end
theorem range'_cons (k j : Nat) : List.range' k (j + 1) = k :: List.range' (k + 1) j := rfl
theorem take_map_snoc (l : List S55) (k : Nat) (h : k < l.length) : (l.take (k + 1)).map (·.f2) = (l.take k).map (·.f2) ++ [(l.getD k z55).f2] := by
  rw [List.take_succ_eq_append_getElem h, List.map_append]
  congr 1
  rw [List.getD_eq_getElem?_getD, List.getElem?_eq_getElem h]
  rfl
end Go.Proofs.Ytlefddghiiigeaa.Q
