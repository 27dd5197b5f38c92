/- More of rows of bools, and rows of slices of whole numbers in memory. -/
import Derived.Test.YticfecncdpdanaaHIsLate
import Derived.Test.YticfecncdpdanaaHCanGo
import Derived.Deep.MidRow
import Derived.Laws.Rows
set_option linter.unusedVariables false
set_option linter.unusedSimpArgs false
namespace Go.Proofs.Yticfecncdpdanaa.Q
open Go.RowKit Go.Proofs.YticfecncdpdanaaW.PrintWords Go.Proofs.YticfecncdpdanaaW.PrintLast Go.Proofs.YticfecncdpdanaaW.PrintMore
theorem below_alloc2 {V W : World} {o : Obj} (h : Below V.heap.size V W) : Below V.heap.size V (W.alloc o) := h.alloc h.size o
theorem below_call2 {V W W2 : World} (h : Below V.heap.size V W) (hb : Below W.heap.size W W2) : Below V.heap.size V W2 := h.trans (hb.mono h.size)
/-- A row that is not in the block that is written stays. -/
theorem own_far {w : World} {base b i : Nat} {e : TypeId} {size n : Nat} {v u : Value} {xs : List Value} (h : w.ownsRow base e size v n xs) (hb : b < base) : (w.setCell ⟨b, i, none⟩ u).ownsRow base e size v n xs := by
  refine ⟨h.1, ?_⟩
  rcases h.2 with h1 | ⟨g, cap, cur, h1, h2, h3, h4⟩
  · exact .inl h1
  · exact .inr ⟨g, cap, cur, h1, h2, (Below.heap_setCell w ⟨b, i, none⟩ u g (by show g ≠ b; omega)).trans h3, h4⟩
theorem own_only {w w1 : World} {base b : Nat} {e : TypeId} {size n : Nat} {v : Value} {xs : List Value} (h : w.ownsRow base e size v n xs) (k : Only b w w1) (hb : ∀ j, v.ownBlock = some j → j ≠ b) : w1.ownsRow base e size v n xs := by
  refine ⟨h.1, ?_⟩
  rcases h.2 with h1 | ⟨g, cap, cur, h1, h2, h3, h4⟩
  · exact .inl h1
  · refine .inr ⟨g, cap, cur, h1, h2, (k.block g (hb g ?_)).trans h3, h4⟩
    rw [h1]
    rfl
/-- A block holds slices of whole numbers, each a row of its own behind the block. -/
structure Rows (w : World) (b : Nat) (vs : List Value) (f : Nat → List Int) : Prop where
  out : w.heap[b]? = some (.cells vs.toArray 34 (0, 0))
  own : ∀ j, j < vs.length → w.ownsRow (b + 1) 2 1 (vs.getD j (.slice none 0 0)) (f j).length (nums .i64 (f j))
theorem Rows.lt {w : World} {b : Nat} {vs : List Value} {f : Nat → List Int} (h : Rows w b vs f) : b < w.heap.size := (Array.getElem?_eq_some_iff.1 h.out).1
theorem Rows.below {w w1 : World} {b : Nat} {vs : List Value} {f : Nat → List Int} (h : Rows w b vs f) (hb : Below w.heap.size w w1) : Rows w1 b vs f := ⟨(hb.block b h.lt).trans h.out, fun j hj => pw_own_below (h.own j hj) hb⟩
theorem Rows.cell {w : World} {b : Nat} {vs : List Value} {f : Nat → List Int} (h : Rows w b vs f) (i : Nat) (hi : i < vs.length) : w.cell? ⟨b, i, none⟩ = some (vs.getD i (.slice none 0 0)) := by
  rw [cell_of_row w b i _ _ (0, 0) h.out]
  simp [List.getD_eq_getElem?_getD, hi]
theorem Rows.frozen {w : World} {b : Nat} {vs : List Value} {f : Nat → List Int} (h : Rows w b vs f) (i : Nat) : w.frozen? ⟨b, i, none⟩ = false := frozen_of_row w b i _ _ h.out
theorem Rows.set {w : World} {b : Nat} {vs : List Value} {f g : Nat → List Int} (h : Rows w b vs f) (i : Nat) (u : Value) (hu : w.ownsRow (b + 1) 2 1 u (g i).length (nums .i64 (g i))) (hg : ∀ j, j ≠ i → g j = f j) : Rows (w.setCell ⟨b, i, none⟩ u) b (vs.set i u) g := by
  refine ⟨?_, fun j hj => ?_⟩
  · rw [heap_setCell_same w b i _ _ _ h.out]
    congr 1
    congr 1
    apply Array.ext'
    simp
  · rw [List.length_set] at hj
    refine own_far ?_ (by omega)
    by_cases hji : j = i
    · subst hji
      simp only [List.getD_eq_getElem?_getD, List.getElem?_set_self hj, Option.getD_some]
      exact hu
    · rw [List.getD_eq_getElem?_getD, List.getElem?_set_ne (Ne.symm hji), ← List.getD_eq_getElem?_getD, hg j hji]
      exact h.own j hj
/-- Behind an append to a row that was made last: what lay there before it. -/
theorem own_lit_far {w w1 : World} {o : Obj} {base : Nat} {e : TypeId} {size n : Nat} {v : Value} {xs : List Value} (h : w.ownsRow base e size v n xs) (hg : (w.alloc o).grownBy w1 (some w.heap.size)) : w1.ownsRow base e size v n xs := by
  refine own_other (pw_own_below h (below_alloc (Below.refl _ _) o)) hg ?_
  cases hv : v.ownBlock with
  | none => exact .inl rfl
  | some k =>
    refine .inr fun he => ?_
    injection he with he
    have := own_lt h k hv
    omega
theorem Rows.lit {w w1 : World} {o : Obj} {b : Nat} {vs : List Value} {f : Nat → List Int} (h : Rows w b vs f) (hg : (w.alloc o).grownBy w1 (some w.heap.size)) : Rows w1 b vs f := by
  have hlt := h.lt
  refine ⟨(hg.block b (by simp; omega) (by simp; omega)).trans ((Below.heap_alloc w o b hlt).trans h.out), fun j hj => own_lit_far (h.own j hj) hg⟩
theorem Rows.start {w : World} {b n : Nat} {f : Nat → List Int} (h : w.heap[b]? = some (.cells (List.replicate n (Value.slice none 0 0)).toArray 34 (0, 0))) (hf : ∀ j, f j = []) : Rows w b (List.replicate n (.slice none 0 0)) f := by
  refine ⟨h, fun j hj => ?_⟩
  rw [List.length_replicate] at hj
  rw [hf, List.getD_eq_getElem?_getD, List.getElem?_replicate, if_pos hj]
  exact own_nil _ _ _ _
theorem infoSl : (Try.prog.info? 34).map (fun i => (i.zero, i.size, i.bytes)) = some (some (.slice none 0 0), 1, 24) := by kernel_rfl
theorem madeSl (n : Nat) : madeCells #[.slice none 0 0] n = (List.replicate n (Value.slice none 0 0)).toArray := by
  apply Array.ext'
  apply List.ext_getElem
  · simp [madeCells]
  · intro i h1 h2
    simp [madeCells, Nat.mod_one]
theorem reads_none (w : World) (A : Option Addr) : ReadsInt w .i64 A 0 [] := ⟨rfl, by omega, fun h => by omega⟩
/-- A block holds just these whole numbers. -/
structure RowZ (w : World) (b : Nat) (T : TypeId) (xs : List Int) : Prop where
  out : w.heap[b]? = some (.cells (xs.map (Value.int .i64)).toArray T (0, 0))
theorem RowZ.lt {w : World} {b : Nat} {T : TypeId} {xs : List Int} (h : RowZ w b T xs) : b < w.heap.size := (Array.getElem?_eq_some_iff.1 h.out).1
theorem RowZ.below {w w1 : World} {b B : Nat} {T : TypeId} {xs : List Int} (h : RowZ w b T xs) (hb : Below B w w1) (hB : b < B) : RowZ w1 b T xs := ⟨(hb.block b hB).trans h.out⟩
theorem RowZ.alloc {w : World} {b : Nat} {T : TypeId} {xs : List Int} (h : RowZ w b T xs) (o : Obj) : RowZ (w.alloc o) b T xs := h.below ((Below.refl w.heap.size w).alloc (Nat.le_refl _) o) h.lt
theorem RowZ.drew {w : World} {b : Nat} {T : TypeId} {xs : List Int} (h : RowZ w b T xs) : RowZ w.drew b T xs := ⟨h.out⟩
theorem RowZ.drewN {w : World} {b : Nat} {T : TypeId} {xs : List Int} (h : RowZ w b T xs) (n : Nat) : RowZ (w.drewN n) b T xs := ⟨h.out⟩
theorem RowZ.cell {w : World} {b : Nat} {T : TypeId} {xs : List Int} (h : RowZ w b T xs) (i : Nat) (hi : i < xs.length) : w.cell? ⟨b, i, none⟩ = some (.int .i64 (xs.getD i 0)) := by
  rw [cell_of_row w b i _ _ (0, 0) h.out]
  simp [List.getD_eq_getElem?_getD, hi]
theorem RowZ.frozen {w : World} {b : Nat} {T : TypeId} {xs : List Int} (h : RowZ w b T xs) (i : Nat) : w.frozen? ⟨b, i, none⟩ = false := frozen_of_row w b i _ _ h.out
theorem RowZ.set {w : World} {b : Nat} {T : TypeId} {xs : List Int} (h : RowZ w b T xs) (i : Nat) (x : Int) : RowZ (w.setCell ⟨b, i, none⟩ (.int .i64 x)) b T (xs.set i x) := ⟨by
  rw [heap_setCell_same w b i _ _ _ h.out]
  congr 1
  congr 1
  apply Array.ext'
  simp⟩
theorem RowZ.keep {w w1 : World} {b g : Nat} {T : TypeId} {xs : List Int} (h : RowZ w b T xs) (hk : KeepBut w w1 g none) (hg : b ≠ g) : RowZ w1 b T xs := ⟨(hk.2 b h.lt hg (by simp)).trans h.out⟩
theorem getD_setZ (xs : List Int) (i j : Nat) (x : Int) (h : i < xs.length) : (xs.set i x).getD j 0 = if j = i then x else xs.getD j 0 := by
  by_cases hj : j = i
  · subst hj
    rw [if_pos rfl]
    simp [List.getD_eq_getElem?_getD, h]
  · rw [if_neg hj]
    simp [List.getD_eq_getElem?_getD, List.getElem?_set_ne (Ne.symm hj)]
theorem infoZ : (Try.prog.info? 3).map (fun i => (i.zero, i.size, i.bytes)) = some (some (.int .i64 0), 1, 8) := by kernel_rfl
theorem madeZ (n : Nat) : madeCells #[.int .i64 0] n = ((List.replicate n (0 : Int)).map (Value.int .i64)).toArray := by
  apply Array.ext'
  apply List.ext_getElem
  · simp [madeCells]
  · intro i h1 h2
    simp [madeCells, Nat.mod_one]
theorem infoSb : (Try.prog.info? 93).map (fun i => (i.zero, i.size, i.bytes)) = some (some (.slice none 0 0), 1, 24) := by kernel_rfl
theorem infoBo : (Try.prog.info? 4).map (fun i => (i.zero, i.size, i.bytes)) = some (some (.bool false), 1, 1) := by kernel_rfl
theorem KeepBut.below {w w1 w2 : World} {g : Nat} (h : KeepBut w w1 g none) (hb : Below w1.heap.size w1 w2) : KeepBut w w2 g none := ⟨Nat.le_trans h.1 hb.size, fun i hi hg hr => (hb.block i (Nat.lt_of_lt_of_le hi h.1)).trans (h.2 i hi hg hr)⟩
/-- An append to a row whose block is g, or is newer than w. -/
theorem KeepBut.append {w w1 w2 : World} {g : Nat} {row : Option Nat} (h : KeepBut w w1 g none) (hg : w1.grownBy w2 row) (hr : ∀ k, row = some k → k = g ∨ w.heap.size ≤ k) : KeepBut w w2 g none :=
  ⟨Nat.le_trans h.1 hg.size, fun i hi hne hn => (hg.block i (Nat.lt_of_lt_of_le hi h.1) (fun e => by
    rcases hr i e.symm with h1 | h1
    · exact hne h1
    · omega)).trans (h.2 i hi hne hn)⟩
theorem R_empty' {α : Type} (d : Kd α) (e : TypeId) (W : World) (base b : Nat) (ok : Nat → Prop) (hb : b = W.heap.size) (hbase : base ≤ W.heap.size) (ho : ok b) : Kd.R d e (W.alloc (.cells #[] e)) base ok (.slice (some ⟨b, 0, none⟩) 0 0) ([] : List α) := by
  subst hb
  refine ⟨fun k hk => by simp [Value.ownBlock] at hk; rw [← hk]; exact ho, ?_⟩
  exact OwnRow.lit W base (Reps.none _ _) hbase (by simp)
end Go.Proofs.Yticfecncdpdanaa.Q
