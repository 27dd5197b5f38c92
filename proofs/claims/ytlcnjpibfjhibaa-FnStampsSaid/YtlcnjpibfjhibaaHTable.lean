/- impl's (purse).table: the walk. -/
import Derived.Test.YtlcnjpibfjhibaaOBase
import Derived.Test.YtlcnjpibfjhibaaTabPure
import Derived.Laws.Rows
import Derived.Deep.OwnRows
import Derived.BigQuiet
import Derived.Deep.QuietTactic
import Derived.StillTailTactics
import Derived.Deep.RegionHeldLaw
import Derived.Deep.RegionWith
set_option linter.unusedVariables false
set_option linter.unusedSimpArgs false
namespace Go.Proofs.Ytlcnjpibfjhibaa.Q
open Go.RowKit Go.Proofs.YtlcnjpibfjhibaaW.PrintWords Go.Proofs.YtlcnjpibfjhibaaW.PrintLast Go.Proofs.YtlcnjpibfjhibaaW.PrintMore
/-- The cells of a row of pairs. -/
def flatP (ps : List S80) : List Value := ps.flatMap fun p => [.int .i64 p.f0, .int .i64 p.f1]
theorem flatP_length (ps : List S80) : (flatP ps).length = ps.length * 2 := by
  induction ps with
  | nil => rfl
  | cons p ps ih =>
    have e : flatP (p :: ps) = .int .i64 p.f0 :: .int .i64 p.f1 :: flatP ps := rfl
    rw [e, List.length_cons, List.length_cons, ih, List.length_cons]
    omega
theorem flatP_get0 (ps : List S80) (i : Nat) (h : i < ps.length) : (flatP ps)[i * 2]? = some (.int .i64 (ps.getD i z80).f0) := by
  induction ps generalizing i with
  | nil => simp at h
  | cons p ps ih =>
    have e : flatP (p :: ps) = .int .i64 p.f0 :: .int .i64 p.f1 :: flatP ps := rfl
    cases i with
    | zero => rw [e]; rfl
    | succ i =>
      rw [e, show (i + 1) * 2 = i * 2 + 1 + 1 by omega, List.getElem?_cons_succ, List.getElem?_cons_succ, ih i (by simpa using h)]
      rfl
theorem flatP_get1 (ps : List S80) (i : Nat) (h : i < ps.length) : (flatP ps)[i * 2 + 1]? = some (.int .i64 (ps.getD i z80).f1) := by
  induction ps generalizing i with
  | nil => simp at h
  | cons p ps ih =>
    have e : flatP (p :: ps) = .int .i64 p.f0 :: .int .i64 p.f1 :: flatP ps := rfl
    cases i with
    | zero => rw [e]; rfl
    | succ i =>
      rw [e, show (i + 1) * 2 + 1 = i * 2 + 1 + 1 + 1 by omega, List.getElem?_cons_succ, List.getElem?_cons_succ, ih i (by simpa using h)]
      rfl
theorem flatP_set0 (ps : List S80) (i : Nat) (x : Int) (h : i < ps.length) : (flatP ps).set (i * 2) (.int .i64 x) = flatP (ps.set i ⟨x, (ps.getD i z80).f1⟩) := by
  induction ps generalizing i with
  | nil => simp at h
  | cons p ps ih =>
    have e : flatP (p :: ps) = .int .i64 p.f0 :: .int .i64 p.f1 :: flatP ps := rfl
    cases i with
    | zero => rw [e]; rfl
    | succ i =>
      rw [e, show (i + 1) * 2 = i * 2 + 1 + 1 by omega, List.set_cons_succ, List.set_cons_succ, ih i (by simpa using h)]
      rfl
theorem flatP_set1 (ps : List S80) (i : Nat) (x : Int) (h : i < ps.length) : (flatP ps).set (i * 2 + 1) (.int .i64 x) = flatP (ps.set i ⟨(ps.getD i z80).f0, x⟩) := by
  induction ps generalizing i with
  | nil => simp at h
  | cons p ps ih =>
    have e : flatP (p :: ps) = .int .i64 p.f0 :: .int .i64 p.f1 :: flatP ps := rfl
    cases i with
    | zero => rw [e]; rfl
    | succ i =>
      rw [e, show (i + 1) * 2 + 1 = i * 2 + 1 + 1 + 1 by omega, List.set_cons_succ, List.set_cons_succ, ih i (by simpa using h)]
      rfl
/-- A block holds just these pairs. -/
structure RowP (w : World) (g : Nat) (ps : List S80) : Prop where
  out : w.heap[g]? = some (.cells (flatP ps).toArray 80 (0, 0))
theorem RowP.lt {w : World} {g : Nat} {ps : List S80} (h : RowP w g ps) : g < w.heap.size := (Array.getElem?_eq_some_iff.1 h.out).1
theorem RowP.below {w w1 : World} {g B : Nat} {ps : List S80} (h : RowP w g ps) (hb : Below B w w1) (hB : g < B) : RowP w1 g ps := ⟨(hb.block g hB).trans h.out⟩
theorem RowP.alloc {w : World} {g : Nat} {ps : List S80} (h : RowP w g ps) (o : Obj) : RowP (w.alloc o) g ps := h.below ((Below.refl w.heap.size w).alloc (Nat.le_refl _) o) h.lt
theorem RowP.drew {w : World} {g : Nat} {ps : List S80} (h : RowP w g ps) : RowP w.drew g ps := ⟨h.out⟩
theorem RowP.far {w : World} {g : Nat} {ps : List S80} (h : RowP w g ps) (c j : Nat) (v : Value) (hc : g ≠ c) : RowP (w.setCell ⟨c, j, none⟩ v) g ps := ⟨(Below.heap_setCell w ⟨c, j, none⟩ v g hc).trans h.out⟩
theorem RowP.cell0 {w : World} {g : Nat} {ps : List S80} (h : RowP w g ps) (i : Nat) (hi : i < ps.length) : w.cell? ⟨g, i * 2, none⟩ = some (.int .i64 (ps.getD i z80).f0) := by
  rw [cell_of_row w g _ _ _ (0, 0) h.out]
  simpa using flatP_get0 ps i hi
theorem RowP.cell1 {w : World} {g : Nat} {ps : List S80} (h : RowP w g ps) (i : Nat) (hi : i < ps.length) : w.cell? ⟨g, i * 2 + 1, none⟩ = some (.int .i64 (ps.getD i z80).f1) := by
  rw [cell_of_row w g _ _ _ (0, 0) h.out]
  simpa using flatP_get1 ps i hi
theorem RowP.frozen {w : World} {g : Nat} {ps : List S80} (h : RowP w g ps) (i : Nat) : w.frozen? ⟨g, i, none⟩ = false := frozen_of_row w g i _ _ h.out
theorem RowP.set0 {w : World} {g : Nat} {ps : List S80} (h : RowP w g ps) (i : Nat) (x : Int) (hi : i < ps.length) : RowP (w.setCell ⟨g, i * 2, none⟩ (.int .i64 x)) g (ps.set i ⟨x, (ps.getD i z80).f1⟩) := ⟨by
  rw [heap_setCell_same w g _ _ _ _ h.out, ← flatP_set0 ps i x hi]
  congr 1
  congr 1
  apply Array.ext'
  simp⟩
theorem RowP.set1 {w : World} {g : Nat} {ps : List S80} (h : RowP w g ps) (i : Nat) (x : Int) (hi : i < ps.length) : RowP (w.setCell ⟨g, i * 2 + 1, none⟩ (.int .i64 x)) g (ps.set i ⟨(ps.getD i z80).f0, x⟩) := ⟨by
  rw [heap_setCell_same w g _ _ _ _ h.out, ← flatP_set1 ps i x hi]
  congr 1
  congr 1
  apply Array.ext'
  simp⟩
/-- A block holds slices. -/
structure RowS (w : World) (b : Nat) (vs : List Value) : Prop where
  out : w.heap[b]? = some (.cells vs.toArray 81 (0, 0))
theorem RowS.lt {w : World} {b : Nat} {vs : List Value} (h : RowS w b vs) : b < w.heap.size := (Array.getElem?_eq_some_iff.1 h.out).1
theorem RowS.below {w w1 : World} {b B : Nat} {vs : List Value} (h : RowS w b vs) (hb : Below B w w1) (hB : b < B) : RowS w1 b vs := ⟨(hb.block b hB).trans h.out⟩
theorem RowS.cell {w : World} {b : Nat} {vs : List Value} (h : RowS w b vs) (i : Nat) (hi : i < vs.length) : w.cell? ⟨b, i, none⟩ = some (vs.getD i (.slice none 0 0)) := by
  rw [cell_of_row w b i _ _ (0, 0) h.out]
  simp [List.getD_eq_getElem?_getD, hi]
theorem RowS.frozen {w : World} {b : Nat} {vs : List Value} (h : RowS w b vs) (i : Nat) : w.frozen? ⟨b, i, none⟩ = false := frozen_of_row w b i _ _ h.out
theorem RowS.set {w : World} {b : Nat} {vs : List Value} (h : RowS w b vs) (i : Nat) (v : Value) : RowS (w.setCell ⟨b, i, none⟩ v) b (vs.set i v) := ⟨by
  rw [heap_setCell_same w b i _ _ _ h.out]
  congr 1
  congr 1
  apply Array.ext'
  simp⟩
theorem infoP : (Try.prog.info? 80).map (fun i => (i.zero, i.size, i.bytes)) = some (some (.agg #[.int .i64 0, .int .i64 0]), 2, 16) := by kernel_rfl
theorem infoPS : (Try.prog.info? 81).map (fun i => (i.zero, i.size, i.bytes)) = some (some (.slice none 0 0), 1, 24) := by kernel_rfl
theorem madePS (n : Nat) : madeCells #[.slice none 0 0] n = (List.replicate n (Value.slice none 0 0)).toArray := by
  apply Array.ext'
  apply List.ext_getElem
  · simp [madeCells]
  · intro i h1 h2
    simp [madeCells, Nat.mod_one]
theorem madeP (m : Nat) : madeCells #[.int .i64 0, .int .i64 0] (m * 2) = (flatP (List.replicate m z80)).toArray := by
  apply Array.ext'
  apply List.ext_getElem
  · simp [madeCells, flatP_length]
  · intro i h1 h2
    have hi : i < m * 2 := by simpa [flatP_length] using h2
    have h0 : (flatP (List.replicate m z80))[i]? = some (.int .i64 0) := by
      rcases Nat.mod_two_eq_zero_or_one i with h3 | h3
      · have := flatP_get0 (List.replicate m z80) (i / 2) (by simp; omega)
        rw [show i / 2 * 2 = i by omega] at this
        rw [this]
        simp [List.getD_eq_getElem?_getD, List.getElem?_replicate, show i / 2 < m by omega, z80]
      · have := flatP_get1 (List.replicate m z80) (i / 2) (by simp; omega)
        rw [show i / 2 * 2 + 1 = i by omega] at this
        rw [this]
        simp [List.getD_eq_getElem?_getD, List.getElem?_replicate, show i / 2 < m by omega, z80]
    have h4 : (flatP (List.replicate m z80)).toArray.toList[i] = .int .i64 0 := by
      have := List.getElem?_eq_getElem (l := flatP (List.replicate m z80)) (i := i) (by rw [flatP_length]; simpa using hi)
      rw [h0] at this
      injection this with this
      exact this.symm
    rw [h4]
    rcases Nat.mod_two_eq_zero_or_one i with h3 | h3 <;> simp [madeCells, h3]
theorem run_makeP (m : Nat) (hm : m ≤ 1000000) (w : World) : (Instr.makeSlice 81 (.int .i64 (m : Int)) (.int .i64 (m : Int))).run Try.prog w = .ok (.slice (some ⟨w.heap.size, 0, none⟩) m m) (w.alloc (.cells (flatP (List.replicate m z80)).toArray 80)) := by
  obtain ⟨i0, hi, hzz⟩ := Option.map_eq_some_iff.1 infoP
  simp only [Prod.mk.injEq] at hzz
  obtain ⟨hz0, hz1, hz2⟩ := hzz
  have hr := run_make (P := Try.prog) w 81 80 i0 _ Try.underlying81 hi hz0 .i64 .i64 (m : Int) (m : Int) (by omega) (by omega) (by rw [hz2]; omega) (by omega)
  simp only [Int.toNat_natCast] at hr
  rw [hz1] at hr
  rw [hr, ← madeP]
  rfl
theorem getD_setP (ps : List S80) (i j : Nat) (x : S80) (h : i < ps.length) : (ps.set i x).getD j z80 = if j = i then x else ps.getD j z80 := by
  by_cases hj : j = i
  · subst hj
    rw [if_pos rfl]
    simp [List.getD_eq_getElem?_getD, h]
  · rw [if_neg hj]
    simp [List.getD_eq_getElem?_getD, List.getElem?_set_ne (Ne.symm hj)]
theorem getD_setV (vs : List Value) (i j : Nat) (x : Value) (h : i < vs.length) : (vs.set i x).getD j (.slice none 0 0) = if j = i then x else vs.getD j (.slice none 0 0) := by
  by_cases hj : j = i
  · subst hj
    rw [if_pos rfl]
    simp [List.getD_eq_getElem?_getD, h]
  · rw [if_neg hj]
    simp [List.getD_eq_getElem?_getD, List.getElem?_set_ne (Ne.symm hj)]
/-- What a row under way holds: the places below a, and at a what has been reckoned. -/
structure RowTo (prev : List S80) (v h : Int) (m a : Nat) (x : S80) (ps : List S80) : Prop where
  len : ps.length = m
  get : ∀ j, j < m → ps.getD j z80 = if j < a then cellAt prev v (j : Int) (cellK v h (j : Int)) else if j = a then x else z80
theorem RowTo.set {prev : List S80} {v h : Int} {m a : Nat} {x : S80} {ps : List S80} (H : RowTo prev v h m a x ps) (ha : a < m) (y : S80) : RowTo prev v h m a y (ps.set a y) := by
  refine ⟨by rw [List.length_set]; exact H.len, fun j hj => ?_⟩
  rw [getD_setP _ _ _ _ (by rw [H.len]; exact ha)]
  by_cases hja : j = a
  · rw [if_pos hja, if_neg (by omega), if_pos hja]
  · rw [if_neg hja, H.get j hj, if_neg hja, if_neg hja]
theorem RowTo.next {prev : List S80} {v h : Int} {m a : Nat} {ps : List S80} (H : RowTo prev v h m a (cellAt prev v (a : Int) (cellK v h (a : Int))) ps) : RowTo prev v h m (a + 1) z80 ps := by
  refine ⟨H.len, fun j hj => ?_⟩
  rw [H.get j hj]
  by_cases hja : j < a
  · rw [if_pos hja, if_pos (by omega)]
  · rw [if_neg hja]
    by_cases hj2 : j = a
    · subst hj2
      rw [if_pos rfl, if_pos (by omega)]
    · rw [if_neg hj2, if_neg (by omega)]
      split <;> rfl
theorem RowTo.all {prev : List S80} {v h : Int} {m : Nat} {x : S80} {ps : List S80} (H : RowTo prev v h m m x ps) : ps = rowT prev v h m := by
  apply List.ext_getElem (by rw [H.len, rowT_length])
  intro j h1 h2
  rw [H.len] at h1
  have e1 := H.get j h1
  have e2 := rowT_get prev v h m j h1
  rw [if_pos h1, ← e2] at e1
  simpa [List.getD_eq_getElem?_getD, h1, H.len, rowT_length] using e1
theorem new_at (w : World) (o : Obj) (b : Nat) (hb : b = w.heap.size) : (w.alloc o).heap[b]? = some o := by subst hb; exact blk_new w o
theorem first_pair {W : World} {g m : Nat} (h : RowP W g (List.replicate m z80)) (hm : 1 ≤ m) : RowP ((W.setCell ⟨g, 0, none⟩ (.int .i64 1)).setCell ⟨g, 1, none⟩ (.int .i64 0)) g (lastT m) := by
  have h1 := h.set0 0 1 (by simp; omega)
  have h2 := h1.set1 0 0 (by simp; omega)
  have e : ((List.replicate m z80).set 0 ⟨1, ((List.replicate m z80).getD 0 z80).f1⟩).set 0 ⟨(((List.replicate m z80).set 0 ⟨1, ((List.replicate m z80).getD 0 z80).f1⟩).getD 0 z80).f0, 0⟩ = lastT m := by
    rw [getD_setP _ _ _ _ (by simp; omega), if_pos rfl, List.set_set]
    rfl
  rw [e] at h2
  exact h2
/-- A table in memory. -/
theorem table_C {w : World} {B n m : Nat} {vs : List Value} {gs : Nat → Nat} {rows : Nat → List S80} {tt : List (List S80)} (hS : RowS w B vs) (hv : vs.length = n) (hn : n ≤ 1000000) (hm : m ≤ 1000000)
    (hr : ∀ j, j < n → vs.getD j (.slice none 0 0) = .slice (some ⟨gs j, 0, none⟩) m m ∧ RowP w (gs j) (rows j) ∧ (rows j).length = m) (ht : tt.length = n) (htr : ∀ j, j < n → tt.getD j [] = rows j) :
    Kd.C (Kd.slice 80 k80) w (some ⟨B, 0, none⟩) n tt := by
  refine ⟨ht, by omega, fun _ => ⟨⟨B, 0, none⟩, rfl, fun j p hj => ?_⟩⟩
  have hjl : j < n := by rw [← ht]; exact (List.getElem?_eq_some_iff.1 hj).1
  obtain ⟨h1, h2, h3⟩ := hr j hjl
  have hp : p = rows j := by
    have := htr j hjl
    rw [List.getD_eq_getElem?_getD, hj] at this
    exact this
  subst hp
  refine ⟨[.slice (some ⟨gs j, 0, none⟩) m m], rfl, ⟨some ⟨gs j, 0, none⟩, m, by rw [h3], by rw [h3]; exact Nat.le_refl _, h3 ▸ rfl, by rw [h3]; omega, fun _ => ⟨_, rfl, fun i x hi => ?_⟩⟩, fun i u hu => ?_⟩
  · have hil : i < (rows j).length := (List.getElem?_eq_some_iff.1 hi).1
    refine ⟨[.int .i64 x.f0, .int .i64 x.f1], rfl, k80_mk w x, fun q u hu => ?_⟩
    have hx : (rows j).getD i z80 = x := by rw [List.getD_eq_getElem?_getD, hi]; rfl
    have c0 := h2.cell0 i hil
    have c1 := h2.cell1 i hil
    rw [hx] at c0 c1
    have ha : ∀ q, (⟨gs j, 0, none⟩ : Addr).add (i * 2 + q) = ⟨gs j, i * 2 + q, none⟩ := fun q => add_plain _ _
    show w.cell? ((⟨gs j, 0, none⟩ : Addr).add (i * 2 + q)) = some u
    rw [ha]
    match q, hu with
    | 0, hu => simp at hu; rw [← hu]; exact c0
    | 1, hu => simp at hu; rw [← hu]; exact c1
    | q + 2, hu => simp at hu
  · have hq : i = 0 := by
      match i, hu with
      | 0, _ => rfl
      | i + 1, hu => simp at hu
    subst hq
    simp at hu
    rw [← hu, ← h1]
    show w.cell? ((⟨B, 0, none⟩ : Addr).add (j * 1 + 0)) = _
    rw [Nat.mul_one, Nat.add_zero, add_plain]
    exact hS.cell j (by omega)
theorem tabT_length (vs hs : List Int) (m : Nat) : (tabT vs hs m).length = vs.length + 1 := by simp [tabT]
theorem tabT_get (vs hs : List Int) (m j : Nat) (h : j < vs.length + 1) : (tabT vs hs m).getD j [] = tabD vs hs m (vs.length - j) := by simp [tabT, List.getD_eq_getElem?_getD, h]
/-- The rows that lie there behind d rounds. -/
structure Rows9 (w : World) (B n m d : Nat) (vs : List Value) (gs : Nat → Nat) (tab : Nat → List S80) : Prop where
  row : RowS w B vs
  len : vs.length = n + 1
  at_ : ∀ j, n < j + d → j ≤ n → vs.getD j (.slice none 0 0) = .slice (some ⟨gs j, 0, none⟩) m m ∧ RowP w (gs j) (tab (n - j)) ∧ B < gs j
theorem Rows9.below {w w1 : World} {B n m d : Nat} {vs : List Value} {gs : Nat → Nat} {tab : Nat → List S80} (h : Rows9 w B n m d vs gs tab) (hb : Below w.heap.size w w1) : Rows9 w1 B n m d vs gs tab :=
  ⟨h.row.below hb h.row.lt, h.len, fun j h1 h2 => by
    obtain ⟨a, b, c⟩ := h.at_ j h1 h2
    exact ⟨a, b.below hb b.lt, c⟩⟩
/-- One row more. -/
theorem Rows9.next {w w1 : World} {B n m d g : Nat} {vs : List Value} {gs : Nat → Nat} {tab : Nat → List S80} (h : Rows9 w B n m d vs gs tab) (hd : d ≤ n) (hg : g = w.heap.size) (hrow : w1.heap[B]? = (w.setCell ⟨B, n - d, none⟩ (.slice (some ⟨g, 0, none⟩) m m)).heap[B]?)
    (hb : ∀ j, j < g → j ≠ B → w1.heap[j]? = w.heap[j]?) (hp : RowP w1 g (tab d)) : Rows9 w1 B n m (d + 1) (vs.set (n - d) (.slice (some ⟨g, 0, none⟩) m m)) (fun j => if j = n - d then g else gs j) tab := by
  have hlt := h.row.lt
  refine ⟨⟨hrow.trans (h.row.set _ _).out⟩, by rw [List.length_set]; exact h.len, fun j h1 h2 => ?_⟩
  rw [getD_setV _ _ _ _ (by rw [h.len]; omega)]
  by_cases hj : j = n - d
  · rw [if_pos hj, if_pos hj]
    refine ⟨rfl, ?_, by omega⟩
    rw [show n - j = d by omega]
    exact hp
  · rw [if_neg hj, if_neg hj]
    obtain ⟨a, b, c⟩ := h.at_ j (by omega) h2
    exact ⟨a, ⟨(hb _ (by have := b.lt; omega) (by omega)).trans b.out⟩, c⟩
set_option maxHeartbeats 40000000 in
set_option maxRecDepth 100000 in
theorem table_any (Av Ah : Option Addr) (cv ch : Nat) (vs hs : List Int) (n most : Nat) (w : World) (hrv : Kd.C (Kd.int .i64) w Av n vs) (hcv : n ≤ cv) (hrh : Kd.C (Kd.int .i64) w Ah n hs) (hch : n ≤ ch) (hn : n ≤ 5) (hmost : most < 2000)
    (hv : ∀ v ∈ vs, 1 ≤ v ∧ v ≤ 1000000) (hh : ∀ h ∈ hs, 0 ≤ h ∧ h ≤ 1099511627776) :
    Calls Try.prog 74 #[.agg #[.slice Av n cv, .slice Ah n ch], .int .i64 (most : Int)] w fun e w' => ∃ B : Nat, e = .returned (.slice (some ⟨B, 0, none⟩) (n + 1) (n + 1)) ∧ Kd.C (Kd.slice 80 k80) w' (some ⟨B, 0, none⟩) (n + 1) (tabT vs hs (most + 1)) ∧ Below w.heap.size w w' := by
  have hlv : vs.length = n := hrv.1
  have hlh : hs.length = n := hrh.1
  have HRV := Aside0.mk hrv
  have HRH := Aside0.mk hrh
  have HV := Aside0.mk hv
  have HH := Aside0.mk hh
  have HLV := Aside0.mk hlv
  have HLH := Aside0.mk hlh
  obtain ⟨m, hm⟩ : ∃ m, m = most + 1 := ⟨_, rfl⟩
  have HM := Aside0.mk hm
  have hm1 : 1 ≤ m := by omega
  have hm2 : m ≤ 2000 := by omega
  obtain ⟨tab, htab⟩ : ∃ tab : Nat → List S80, tab = tabD vs hs m := ⟨_, rfl⟩
  have HTL : Aside0 (∀ d, (tab d).length = m) := ⟨fun d => by rw [htab]; exact tabD_length vs hs m d⟩
  have HTO : Aside0 (∀ d, d ≤ n → RowOk (wayB m d) m (tab d)) := ⟨fun d hd => by
    rw [htab]
    exact tabD_ok m (by rw [hlv, hlh]) (fun v hv' => (hv v hv').1) (fun h hh' => (hh h hh').1) d (by rw [hlv]; exact hd)⟩
  have HT0 : Aside0 (tab 0 = lastT m) := ⟨by rw [htab]; rfl⟩
  have HTS : Aside0 (∀ d, tab (d + 1) = rowT (tab d) (vs.getD (n - (d + 1)) 0) (hs.getD (n - (d + 1)) 0) m) := ⟨fun d => by rw [htab, tabD, hlv]⟩
  have HTT : Aside0 (∀ j, j < n + 1 → (tabT vs hs m).getD j [] = tab (n - j)) := ⟨fun j hj => by rw [tabT_get vs hs m j (by rw [hlv]; exact hj), hlv, htab]⟩
  have HTN : Aside0 ((tabT vs hs m).length = n + 1) := ⟨by rw [tabT_length, hlv]⟩
  obtain ⟨n1, hn1⟩ : ∃ n1, n1 = n + 1 := ⟨_, rfl⟩
  have HN1 := Aside0.mk hn1
  have hna : n + 1 ≤ n1 := by omega
  have hnb : n1 ≤ n + 1 := by omega
  have en : IntKind.i64.wrap ((n : Int) + 1) = (n1 : Int) := by rw [IntWalk.i64_in _ (by omega)]; omega
  have em : IntKind.i64.wrap ((most : Int) + 1) = (m : Int) := by rw [IntWalk.i64_in _ (by omega)]; omega
  have hmk := fun W => run_make_row' (P := Try.prog) 77 81 (.slice none 0 0) 24 Try.underlying77 infoPS rfl .i64 .i64 n1 (by omega) (by omega) W
  rw [madePS n1] at hmk
  obtain ⟨mc, hmc⟩ : ∃ mc, (List.replicate n1 (Value.slice none 0 0)).toArray = mc := ⟨_, rfl⟩
  have HMC := Aside0.mk hmc
  rw [hmc] at hmk
  have hmp := fun W => run_makeP m (by omega) W
  obtain ⟨mp, hmpe⟩ : ∃ mp, (flatP (List.replicate m z80)).toArray = mp := ⟨_, rfl⟩
  have HMP := Aside0.mk hmpe
  rw [hmpe] at hmp
  rw [← hm]
  clear hmc hmpe hrv hrh hv hh hm hlv hlh htab hn1
  go_enter Try.func74, Try.ntmps74
  go_wp2
  obtain ⟨b0, hb0⟩ : ∃ b0, w.heap.size = b0 := ⟨_, rfl⟩
  obtain ⟨W0, hW0⟩ : ∃ W0, W0 = (w.alloc (.cells #[.slice Av n cv, .slice Ah n ch] 58)).alloc (.cells mc 81) := ⟨_, rfl⟩
  have HBW : Aside0 (Below b0 w W0) := ⟨by rw [hW0, ← hb0]; exact ((Below.refl _ _).alloc (Nat.le_refl _) _).alloc (by simp) _⟩
  have HR0 : Aside0 (Rows9 W0 (b0 + 1) n m 0 (List.replicate n1 (.slice none 0 0)) (fun _ => 0) tab) := ⟨⟨⟨by rw [hW0, HMC.out]; exact new_at _ _ _ (by simp [hb0])⟩, by rw [List.length_replicate, HN1.out], fun j h1 h2 => by omega⟩⟩
  have Q0 : Aside0 (W0.cell? ⟨b0, 0, none⟩ = some (.slice Av n cv)) := ⟨by rw [hW0, ← hb0]; go_simp⟩
  have Q1 : Aside0 (W0.cell? ⟨b0, 1, none⟩ = some (.slice Ah n ch)) := ⟨by rw [hW0, ← hb0]; go_simp⟩
  have HBS := Aside0.mk hb0
  simp only [hb0] at ⊢
  rw [← hW0]
  clear hW0 hmk HMC hb0
  go_loopg [6] (n + 1) (fun gg v6 wr => ∃ (d : Nat) (vl : List Value) (gs : Nat → Nat), d ≤ n + 1 ∧ n + 1 - d ≤ gg ∧ v6 = .int .i64 ((n : Int) - d) ∧ Aside0 (Rows9 wr (b0 + 1) n m d vl gs tab) ∧ Aside0 (Below (b0 + 1) W0 wr))
  case atStart => exact ⟨0, _, _, by omega, by omega, by simp, HR0, ⟨Below.refl _ _⟩⟩
  case round =>
    obtain ⟨d, vl, gs, hd, hgg, rfl, HRW, BW⟩ := hrel
    by_cases hdn : d ≤ n
    · obtain ⟨i, hi⟩ : ∃ i : Nat, n - d = i := ⟨_, rfl⟩
      have hiz : (n : Int) - d = (i : Int) := by omega
      rw [hiz]
      have hge : (0 : Int) ≤ (i : Int) := by omega
      have hin : i ≤ n := by omega
      have hinz : (i : Int) < (n1 : Int) := by omega
      have hs1 : i + d ≤ n := by omega
      have hs2 : n ≤ i + d := by omega
      have d0 := (BW.out.cell (p := ⟨b0, 0, none⟩) (show b0 < b0 + 1 by omega)).trans Q0.out
      have d1 := (BW.out.cell (p := ⟨b0, 1, none⟩) (show b0 < b0 + 1 by omega)).trans Q1.out
      have hBl := HRW.out.row.lt
      have hcB := HRW.out.row.cell i (by rw [HRW.out.len]; omega)
      have hfB := HRW.out.row.frozen i
      obtain ⟨u9, hu9⟩ : ∃ u9, vl.getD i (.slice none 0 0) = u9 := ⟨_, rfl⟩
      rw [hu9] at hcB
      clear hu9 hiz
      go_upto_region 6 with (fail)
      obtain ⟨g, hg⟩ : ∃ g, wr.heap.size = g := ⟨_, rfl⟩
      obtain ⟨W1, hW1⟩ : ∃ W1, W1 = (wr.setCell ⟨b0 + 1, i, none⟩ (.slice (some ⟨wr.heap.size, 0, none⟩) m m)).alloc (.cells mp 80) := ⟨_, rfl⟩
      have HP1 : Aside0 (RowP W1 g (List.replicate m z80)) := ⟨⟨by rw [hW1, HMP.out]; exact new_at _ _ _ (by simp [World.setCell, hg])⟩⟩
      have HK1 : Aside0 (∀ j, j < g → j ≠ b0 + 1 → W1.heap[j]? = wr.heap[j]?) := ⟨fun j h1 h2 => by
        rw [hW1]
        exact (Below.heap_alloc _ _ _ (by simp [World.setCell]; omega)).trans (Below.heap_setCell wr _ _ _ h2)⟩
      have HK2 : Aside0 (W1.heap[b0 + 1]? = (wr.setCell ⟨b0 + 1, n - d, none⟩ (.slice (some ⟨g, 0, none⟩) m m)).heap[b0 + 1]?) := ⟨by
        rw [hW1, hi, hg]
        exact Below.heap_alloc _ _ _ (by simp [World.setCell]; omega)⟩
      have HB1 : Aside0 (Below (b0 + 1) W0 W1) := ⟨by rw [hW1]; exact (BW.out.setCell (Nat.le_refl _) _).alloc (by simp [World.setCell]; omega) _⟩
      have hgl : b0 + 1 < g := by omega
      have cB : W1.cell? ⟨b0 + 1, i, none⟩ = some (.slice (some ⟨g, 0, none⟩) m m) := by
        have h1 : RowS W1 (b0 + 1) (vl.set (n - d) (.slice (some ⟨g, 0, none⟩) m m)) := ⟨HK2.out.trans (HRW.out.row.set _ _).out⟩
        have h2 := h1.cell i (by rw [List.length_set, HRW.out.len]; omega)
        rw [getD_setV _ _ _ _ (by rw [HRW.out.len]; omega), if_pos hi.symm] at h2
        exact h2
      have hGS : g = wr.heap.size := hg.symm
      have HGS := Aside0.mk hGS
      rw [hg]
      rw [hg] at hW1
      rw [← hW1]
      have d0 := (HB1.out.cell (p := ⟨b0, 0, none⟩) (show b0 < b0 + 1 by omega)).trans Q0.out
      have d1 := (HB1.out.cell (p := ⟨b0, 1, none⟩) (show b0 < b0 + 1 by omega)).trans Q1.out
      have HID := Aside0.mk hi
      clear hW1 hg hGS hcB hfB
      have q0 := HP1.out.cell0 0 (by simp; omega)
      have q1 := HP1.out.cell1 0 (by simp; omega)
      have f0 := HP1.out.frozen 0
      have f1 := HP1.out.frozen 1
      by_cases hd0 : d = 0
      · have hmz : (0 : Int) < (m : Int) := by omega
        simp only [Nat.zero_mul, Nat.zero_add] at q0 q1
        clear hi
        obtain rfl : n = i := by omega
        have hbe : ((n : Int) == (n : Int)) = true := by simp
        subst hd0
        have HP2 : Aside0 (RowP ((W1.setCell ⟨g, 0, none⟩ (.int .i64 1)).setCell ⟨g, 1, none⟩ (.int .i64 0)) g (tab 0)) := ⟨by rw [HT0.out]; exact first_pair HP1.out hm1⟩
        have hbl : ∀ j, j ≠ g → ((W1.setCell ⟨g, 0, none⟩ (.int .i64 1)).setCell ⟨g, 1, none⟩ (.int .i64 0)).heap[j]? = W1.heap[j]? := fun j hj => (Below.heap_setCell _ _ _ _ hj).trans (Below.heap_setCell _ _ _ _ hj)
        have HR9 := Aside0.mk (HRW.out.next (Nat.zero_le _) HGS.out ((hbl _ (by omega)).trans HK2.out) (fun j h1 h2 => (hbl j (by omega)).trans (HK1.out j h1 h2)) HP2.out)
        have HB9 : Aside0 (Below (b0 + 1) W0 ((W1.setCell ⟨g, 0, none⟩ (.int .i64 1)).setCell ⟨g, 1, none⟩ (.int .i64 0))) := ⟨(HB1.out.setCell (by show b0 + 1 ≤ g; omega) _).setCell (by show b0 + 1 ≤ g; omega) _⟩
        clear hbl
        go_wp2
        go_roundg (n + 1 - 1)
        case measure => omega
        case rel => exact ⟨1, _, _, by omega, by omega, by congr 1, HR9, HB9⟩
      · obtain ⟨e, rfl⟩ : ∃ e, d = e + 1 := ⟨d - 1, by omega⟩
        have hbe : ((i : Int) == (n : Int)) = false := by rw [beq_eq_false_iff_ne]; omega
        have hi1n : (i : Int) + 1 < (n1 : Int) := by omega
        have hinn : (i : Int) < (n : Int) := by omega
        obtain ⟨g', hg'⟩ : ∃ g', gs (i + 1) = g' := ⟨_, rfl⟩
        obtain ⟨r1, r2, r3⟩ := HRW.out.at_ (i + 1) (by omega) (by omega)
        rw [hg'] at r1 r2 r3
        rw [show n - (i + 1) = e by omega] at r2
        have hg'l : g' < g := by have := r2.lt; have := HGS.out; omega
        have HPV : Aside0 (RowP W1 g' (tab e)) := ⟨⟨(HK1.out _ hg'l (by omega)).trans r2.out⟩⟩
        have cB1 : W1.cell? ⟨b0 + 1, i + 1, none⟩ = some (.slice (some ⟨g', 0, none⟩) m m) := by
          have h1 : RowS W1 (b0 + 1) (vl.set (n - (e + 1)) (.slice (some ⟨g, 0, none⟩) m m)) := ⟨HK2.out.trans (HRW.out.row.set _ _).out⟩
          have h2 := h1.cell (i + 1) (by rw [List.length_set, HRW.out.len]; omega)
          rw [getD_setV _ _ _ _ (by rw [HRW.out.len]; omega), if_neg (by omega), r1] at h2
          exact h2
        have hBw1 : Below w.heap.size w W1 := by
          rw [HBS.out]
          exact HBW.out.trans (HB1.out.mono (by omega))
        obtain ⟨adv, ea, cv1⟩ := at_int64 (Kd.C_below HRV.out hBw1) i (by omega)
        obtain ⟨adh, eh, ch1⟩ := at_int64 (Kd.C_below HRH.out hBw1) i (by omega)
        subst ea eh
        have hvb := HV.out _ (show vs.getD i 0 ∈ vs by rw [List.getD_eq_getElem?_getD, List.getElem?_eq_getElem (by rw [HLV.out]; omega)]; exact List.getElem_mem _)
        have hhb := HH.out _ (show hs.getD i 0 ∈ hs by rw [List.getD_eq_getElem?_getD, List.getElem?_eq_getElem (by rw [HLH.out]; omega)]; exact List.getElem_mem _)
        have HTE : Aside0 (tab (e + 1) = rowT (tab e) (vs.getD i 0) (hs.getD i 0) m) := ⟨by rw [HTS.out, hi]⟩
        obtain ⟨v, hv⟩ : ∃ v, vs.getD i 0 = v := ⟨_, rfl⟩
        obtain ⟨h, hh⟩ : ∃ h, hs.getD i 0 = h := ⟨_, rfl⟩
        rw [hv, hh] at HTE
        rw [hv] at hvb cv1
        rw [hh] at hhb ch1
        have HOK := Aside0.mk (HTO.out e (by omega))
        have hW := wayB_le4 hm2 e (by omega)
        have hWp := wayB_pos m e
        have HPL := Aside0.mk (HTL.out e)
        obtain ⟨prev, hprev⟩ : ∃ prev, tab e = prev := ⟨_, rfl⟩
        rw [hprev] at HTE HOK HPL HPV
        obtain ⟨wb, hwb⟩ : ∃ wb, wayB m e = wb := ⟨_, rfl⟩
        rw [hwb] at hW hWp HOK
        have HF : Aside0 (∀ W, Below g W1 W → W.cell? ⟨b0, 0, none⟩ = some (.slice (some adv) n cv) ∧ W.cell? ⟨b0, 1, none⟩ = some (.slice (some adh) n ch) ∧ W.cell? ⟨b0 + 1, i, none⟩ = some (.slice (some ⟨g, 0, none⟩) m m) ∧ W.cell? ⟨b0 + 1, i + 1, none⟩ = some (.slice (some ⟨g', 0, none⟩) m m) ∧ W.cell? (adv.add i) = some (.int .i64 v) ∧ W.cell? (adh.add i) = some (.int .i64 h) ∧ RowP W g' prev) := ⟨fun W hW => by
          have hBw : Below w.heap.size w W := hBw1.trans (hW.mono (by rw [HBS.out]; omega))
          obtain ⟨a1, b1, c1⟩ := at_int64 (Kd.C_below HRV.out hBw) i (by omega)
          obtain ⟨a2, b2, c2⟩ := at_int64 (Kd.C_below HRH.out hBw) i (by omega)
          injection b1 with b1
          injection b2 with b2
          subst b1 b2
          rw [hv] at c1
          rw [hh] at c2
          exact ⟨(hW.cell (p := ⟨b0, 0, none⟩) (show b0 < g by omega)).trans d0, (hW.cell (p := ⟨b0, 1, none⟩) (show b0 < g by omega)).trans d1, (hW.cell (p := ⟨b0 + 1, i, none⟩) hgl).trans cB, (hW.cell (p := ⟨b0 + 1, i + 1, none⟩) hgl).trans cB1, c1, c2, HPV.out.below hW hg'l⟩⟩
        have HT00 : Aside0 (RowTo prev v h m 0 z80 (List.replicate m z80)) := ⟨⟨by simp, fun j hj => by
          rw [if_neg (by omega), List.getD_eq_getElem?_getD, List.getElem?_replicate, if_pos hj]
          split <;> rfl⟩⟩
        obtain ⟨v1, v2⟩ := hvb
        obtain ⟨h1, h2⟩ := hhb
        clear hv hh hprev hwb hBw1 cv1 ch1 cB1 r1 r2 r3 hg' cB q0 q1 f0 f1 d0 d1 hi hd0
        obtain ⟨d0, d1, _⟩ := HF.out W1 (Below.refl _ _)
        go_wp2
        clear d0 d1
        go_loopg [42] m (fun gg v42 wq => ∃ (a : Nat) (ps : List S80), a ≤ m ∧ m - a ≤ gg ∧ v42 = .int .i64 (a : Int) ∧ Aside0 (RowP wq g ps) ∧ Aside0 (RowTo prev v h m a z80 ps) ∧ Aside0 (Below g W1 wq))
        case atStart => exact ⟨0, _, by omega, by omega, rfl, HP1, HT00, ⟨Below.refl _ _⟩⟩
        case round =>
          obtain ⟨a, ps, ham, hg2, rfl, HP, HT, HB⟩ := hrel
          by_cases hal : a < m
          · have haz : (a : Int) < (m : Int) := by omega
            have e1 : IntKind.i64.wrap ((a : Int) + 1) = ((a + 1 : Nat) : Int) := by rw [IntWalk.i64_in _ (by omega)]; omega
            have hck := cellK_le v1 h1 a
            go_wp2
            obtain ⟨wo, hwo⟩ : ∃ wo : World, wo = wr := ⟨_, rfl⟩
            subst hwo
            go_loopg [8] (cellK v h (a : Int)) (fun gg v8 wq => ∃ (k : Nat) (ps : List S80), k ≤ cellK v h (a : Int) ∧ cellK v h (a : Int) - k ≤ gg ∧ v8 = .int .i64 (k : Int) ∧ Aside0 (RowP wq g ps) ∧ Aside0 (RowTo prev v h m a (cellAt prev v (a : Int) k) ps) ∧ Aside0 (Below g W1 wq))
            case atStart => exact ⟨0, ps, by omega, by omega, rfl, HP, HT, HB⟩
            case round =>
              obtain ⟨k, qs, hkk, hg3, rfl, HP, HT, HB⟩ := hrel
              have HKI := Aside0.mk (cellK_iff v1 h1 (show (0 : Int) ≤ (a : Int) by omega) k)
              obtain ⟨d0, d1, c0, c1, cv1, ch1, hpv⟩ := HF.out wr HB.out
              have HPV := Aside0.mk hpv
              clear hpv
              by_cases hkl : k < cellK v h (a : Int)
              · obtain ⟨g1, g2⟩ := HKI.out.1 hkl
                obtain ⟨kv, hkv⟩ : ∃ kv : Nat, (k : Int) * v = kv := ⟨((k : Int) * v).toNat, by have := Int.mul_nonneg (show (0 : Int) ≤ k by omega) (show 0 ≤ v by omega); omega⟩
                have hkb : (k : Int) ≤ kv := by
                  have := Int.mul_le_mul_of_nonneg_left v1 (show (0 : Int) ≤ k by omega)
                  rw [Int.mul_one, hkv] at this
                  exact this
                rw [hkv] at g2
                obtain ⟨x, hx⟩ : ∃ x : Nat, (a : Int) - kv = x := ⟨((a : Int) - kv).toNat, by omega⟩
                have em1 : IntKind.i64.wrap ((k : Int) * v) = (kv : Int) := by rw [hkv, IntWalk.i64_in _ (by omega)]
                have em2 : IntKind.i64.wrap ((a : Int) - (kv : Int)) = (x : Int) := by rw [hx, IntWalk.i64_in _ (by omega)]
                have e2 : IntKind.i64.wrap ((k : Int) + 1) = ((k + 1 : Nat) : Int) := by rw [IntWalk.i64_in _ (by omega)]; omega
                have ei : IntKind.i64.wrap ((i : Int) + 1) = ((i + 1 : Nat) : Int) := by rw [IntWalk.i64_in _ (by omega)]; omega
                have hxm : x < m := by omega
                have hxz : (x : Int) < (m : Int) := by omega
                have HCS : Aside0 (cellAt prev v (a : Int) (k + 1) = cellStep prev v (a : Int) (cellAt prev v (a : Int) k) k) := ⟨rfl⟩
                have HCX : Aside0 (prev.getD ((a : Int) - (k : Int) * v).toNat z80 = prev.getD x z80) := ⟨by rw [hkv, hx, Int.toNat_natCast]⟩
                have p0 := HPV.out.cell0 x (by rw [HPL.out]; exact hxm)
                have p1 := HPV.out.cell1 x (by rw [HPL.out]; exact hxm)
                obtain ⟨w1, w2⟩ := HOK.out.ways x hxm
                obtain ⟨l1, l2⟩ := HOK.out.least x hxm
                obtain ⟨b1, b2, b3, b4⟩ := cellAt_ok HOK.out hWp v1 hal k (by rw [hkv]; omega)
                obtain ⟨r, hr⟩ : ∃ r, prev.getD x z80 = r := ⟨_, rfl⟩
                rw [hr] at p0 p1 w1 w2 l1 l2 HCX
                obtain ⟨rw_, rl⟩ := r
                obtain ⟨ac, hac⟩ : ∃ ac, cellAt prev v (a : Int) k = ac := ⟨_, rfl⟩
                rw [hac] at HT HCS b1 b2 b3 b4
                obtain ⟨aw, al⟩ := ac
                simp only at p0 p1 w1 w2 l1 l2 b1 b2 b3 b4
                have hkva : (kv : Int) ≤ (a : Int) := by omega
                have hbk : wb * (k : Int) ≤ 32000000000000000 := by
                  have h9 := Int.mul_le_mul_of_nonneg_left (show (k : Int) ≤ 2000 by omega) hWp
                  omega
                clear hr hac hx hkv HKI g2
                have dg1 : decide ((k : Int) ≤ h) = true := decide_eq_true g1
                have dg2 : decide ((kv : Int) ≤ (a : Int)) = true := decide_eq_true (by omega)
                have ez : rw_ = 0 ∨ ¬ rw_ = 0 := by omega
                have i0 : (0 : Int) ≤ (i : Int) + 1 := by omega
                have hgw : g < wr.heap.size := HP.out.lt
                have hl0 : b0 < wr.heap.size := by omega
                have hl1 : b0 + 1 < wr.heap.size := by omega
                have hl2 : g' < wr.heap.size := by omega
                have hl3 := World.block_lt_of_cell? wr _ cv1
                have hl4 := World.block_lt_of_cell? wr _ ch1
                --CUT2
                go_upto_region 14 with (fail)
                go_cut [9] from 65 to 80 (fun v9 wx => ∃ p, v9 = .pointer (some ⟨p, 0, none⟩) ∧ wr.heap.size ≤ p ∧ wx.cell? ⟨p, 0, none⟩ = some (.int .i64 rw_) ∧ wx.cell? ⟨p, 1, none⟩ = some (.int .i64 rl) ∧ Aside0 (Below wr.heap.size wr wx))
                case first =>
                  have hbr : Below wr.heap.size wr wr := Below.refl _ _
                  go_region
                  all_goals
                    go_wp2_with fail
                    go_meet
                    exact ⟨_, rfl, Nat.le_refl _, by go_simp, by go_simp, ⟨((Below.refl _ _).alloc (Nat.le_refl _) _).drew⟩⟩
                case rest =>
                  obtain ⟨p, rfl, hp, hq0, hq1, hBc⟩ := hcut
                  have HBc : Aside0 (Below g W1 wc) := ⟨HB.out.trans (hBc.out.mono (by omega))⟩
                  have HPc := Aside0.mk (HP.out.below hBc.out hgw)
                  clear d0 d1 c0 c1 cv1 ch1 p0 p1 hl0 hl1 hl2 hl3 hl4 hBc
                  obtain ⟨W4, hW4⟩ : ∃ W4 : World, W4 = wc := ⟨_, rfl⟩
                  subst hW4
                  have hpl := World.block_lt_of_cell? W4 _ hq0
                  simp only at hpl
                  have haq := HT.out.get a hal
                  rw [if_neg (Nat.lt_irrefl a), if_pos rfl] at haq
                  by_cases hr0 : rw_ = 0
                  · subst hr0
                    have HTN : Aside0 (RowTo prev v h m a (cellAt prev v (a : Int) (k + 1)) qs) := ⟨by
                      rw [HCS.out, cellStep, HCX.out, if_pos rfl]
                      exact HT.out⟩
                    clear haq
                    go_wp2
                    go_roundg (cellK v h (a : Int) - (k + 1))
                    case measure => omega
                    case rel => exact ⟨k + 1, qs, by omega, by omega, by go_num, HPc, HTN, HBc⟩
                  · have hrb : (rw_ == 0) = false := by simpa using hr0
                    have o0 := HPc.out.cell0 a (by rw [HT.out.len]; exact hal)
                    have o1 := HPc.out.cell1 a (by rw [HT.out.len]; exact hal)
                    rw [haq] at o0 o1
                    simp only at o0 o1
                    obtain ⟨d0, d1, c0, c1, cv1, ch1, _⟩ := HF.out W4 HBc.out
                    have em4 : IntKind.i64.wrap (rl + (k : Int)) = rl + (k : Int) := by rw [IntWalk.i64_in _ (by omega)]
                    have em5 : IntKind.i64.wrap (aw + rw_) = aw + rw_ := by rw [IntWalk.i64_in _ (by omega)]
                    have HNX : Aside0 (cellAt prev v (a : Int) (k + 1) = ⟨aw + rw_, if aw = 0 ∨ rl + (k : Int) < al then rl + (k : Int) else al⟩) := ⟨by
                      rw [HCS.out, cellStep, HCX.out, if_neg hr0]⟩
                    go_upto_region 17 with (fail)
                    obtain ⟨p5, hp5⟩ : ∃ p5, W4.heap.size = p5 := ⟨_, rfl⟩
                    obtain ⟨W5, hW5⟩ : ∃ W5, W5 = W4.alloc (.cells #[.int .i64 aw, .int .i64 al] 80) := ⟨_, rfl⟩
                    have hB5 : Below W4.heap.size W4 W5 := by rw [hW5]; exact (Below.refl _ _).alloc (Nat.le_refl _) _
                    have x0 : W5.cell? ⟨p5, 0, none⟩ = some (.int .i64 aw) := by rw [hW5, ← hp5]; go_simp
                    have x1 : W5.cell? ⟨p5, 1, none⟩ = some (.int .i64 al) := by rw [hW5, ← hp5]; go_simp
                    have hq0 := pw_cell_below hB5 hq0
                    have hq1 := pw_cell_below hB5 hq1
                    have HP5 := Aside0.mk (HPc.out.below hB5 HPc.out.lt)
                    have HB5 : Aside0 (Below g W1 W5) := ⟨HBc.out.trans (hB5.mono (by have := HPc.out.lt; omega))⟩
                    have hg4 := HPc.out.lt
                    have hpg : p ≠ g := by omega
                    have hp5g : p5 ≠ g := by omega
                    clear d0 d1 c0 c1 cv1 ch1 o0 o1 HPc HBc
                    rw [hp5]
                    rw [← hW5]
                    clear hW5 hB5 hp5 hpl
                    obtain ⟨d0, d1, c0, c1, cv1, ch1, _⟩ := HF.out W5 HB5.out
                    have o0 := HP5.out.cell0 a (by rw [HT.out.len]; exact hal)
                    have o1 := HP5.out.cell1 a (by rw [HT.out.len]; exact hal)
                    rw [haq] at o0 o1
                    simp only at o0 o1
                    have f0 := HP5.out.frozen (a * 2)
                    have f1 := HP5.out.frozen (a * 2 + 1)
                    have hbg : b0 + 1 ≠ g := by omega
                    by_cases ha0 : aw = 0
                    · have hab : (aw == 0) = true := by simp [ha0]
                      have HNX2 : Aside0 (cellAt prev v (a : Int) (k + 1) = ⟨aw + rw_, rl + (k : Int)⟩) := ⟨by rw [HNX.out, if_pos (.inl ha0)]⟩
                      clear HNX HCS HCX
                      go_wp2_with fail
                      go_still_tail 11, (by kernel_rfl)
                      change wpList _ _ _ _ _ W5.drew
                      go_upto_region 19 with (fail)
                      obtain ⟨W6, hW6⟩ : ∃ W6, W6 = (W5.setCell ⟨g, a * 2 + 1, none⟩ (.int .i64 (rl + (k : Int)))).drew := ⟨_, rfl⟩
                      have HPn : Aside0 (RowP W6 g (qs.set a ⟨aw, rl + (k : Int)⟩)) := ⟨by
                        rw [hW6]
                        have h8 := (HP5.out.set1 a (rl + (k : Int)) (by rw [HT.out.len]; exact hal)).drew
                        rw [haq] at h8
                        exact h8⟩
                      have HBn : Aside0 (Below g W1 W6) := ⟨by rw [hW6]; exact (HB5.out.setCell (Nat.le_refl _) _).drew⟩
                      have HTn : Aside0 (RowTo prev v h m a ⟨aw, rl + (k : Int)⟩ (qs.set a ⟨aw, rl + (k : Int)⟩)) := ⟨HT.out.set hal _⟩
                      have y0 : W6.cell? ⟨p, 0, none⟩ = some (.int .i64 rw_) := by rw [hW6]; exact (World.cell?_setCell_far _ _ _ _ (Ne.symm hpg)).trans hq0
                      have y1 : W6.cell? ⟨p, 1, none⟩ = some (.int .i64 rl) := by rw [hW6]; exact (World.cell?_setCell_far _ _ _ _ (Ne.symm hpg)).trans hq1
                      rw [← hW6]
                      clear hW6 d0 d1 c0 c1 cv1 ch1 o0 o1 f0 f1 x0 x1 hq0 hq1
                      obtain ⟨d0, d1, c0, c1, cv1, ch1, _⟩ := HF.out W6 HBn.out
                      have hpair : ((qs.set a ⟨aw, rl + (k : Int)⟩).getD a z80).f1 = rl + (k : Int) := by rw [getD_setP _ _ _ _ (by rw [HT.out.len]; exact hal), if_pos rfl]
                      have hpair0 : ((qs.set a ⟨aw, rl + (k : Int)⟩).getD a z80).f0 = aw := by rw [getD_setP _ _ _ _ (by rw [HT.out.len]; exact hal), if_pos rfl]
                      have o0 := HPn.out.cell0 a (by rw [HTn.out.len]; exact hal)
                      rw [hpair0] at o0
                      have f0 := HPn.out.frozen (a * 2)
                      obtain ⟨rs, hrs⟩ : ∃ rs, qs.set a ⟨aw, rl + (k : Int)⟩ = rs := ⟨_, rfl⟩
                      rw [hrs] at HPn HTn hpair
                      clear hrs hpair0 haq
                      clear ha0
                      go_wp2_with fail
                      go_still_tail 13, (by kernel_rfl)
                      change wpList _ _ _ _ _ W6.drew
                      go_wp2
                      have HZ9 : Aside0 (RowP (W6.setCell ⟨g, a * 2, none⟩ (.int .i64 (aw + rw_))).drew g (rs.set a ⟨aw + rw_, rl + (k : Int)⟩)) := ⟨by
                        have h8 := (HPn.out.set0 a (aw + rw_) (by rw [HTn.out.len]; exact hal)).drew
                        rw [hpair] at h8
                        exact h8⟩
                      have HT9 : Aside0 (RowTo prev v h m a (cellAt prev v (a : Int) (k + 1)) (rs.set a ⟨aw + rw_, rl + (k : Int)⟩)) := ⟨by rw [HNX2.out]; exact HTn.out.set hal _⟩
                      have HB9 : Aside0 (Below g W1 (W6.setCell ⟨g, a * 2, none⟩ (.int .i64 (aw + rw_))).drew) := ⟨(HBn.out.setCell (Nat.le_refl _) _).drew⟩
                      go_roundg (cellK v h (a : Int) - (k + 1))
                      case measure => omega
                      case rel => exact ⟨k + 1, _, by omega, by omega, by go_num, HZ9, HT9, HB9⟩
                    · have hab : (aw == 0) = false := by simpa using ha0
                      by_cases hlt : rl + (k : Int) < al
                      · have hld : decide (rl + (k : Int) < al) = true := decide_eq_true hlt
                        have HNX2 : Aside0 (cellAt prev v (a : Int) (k + 1) = ⟨aw + rw_, rl + (k : Int)⟩) := ⟨by rw [HNX.out, if_pos (.inr hlt)]⟩
                        clear HNX HCS HCX
                        go_wp2_with fail
                        go_still_tail 11, (by kernel_rfl)
                        change wpList _ _ _ _ _ W5.drew
                        go_upto_region 19 with (fail)
                        obtain ⟨W6, hW6⟩ : ∃ W6, W6 = (W5.setCell ⟨g, a * 2 + 1, none⟩ (.int .i64 (rl + (k : Int)))).drew := ⟨_, rfl⟩
                        have HPn : Aside0 (RowP W6 g (qs.set a ⟨aw, rl + (k : Int)⟩)) := ⟨by
                          rw [hW6]
                          have h8 := (HP5.out.set1 a (rl + (k : Int)) (by rw [HT.out.len]; exact hal)).drew
                          rw [haq] at h8
                          exact h8⟩
                        have HBn : Aside0 (Below g W1 W6) := ⟨by rw [hW6]; exact (HB5.out.setCell (Nat.le_refl _) _).drew⟩
                        have HTn : Aside0 (RowTo prev v h m a ⟨aw, rl + (k : Int)⟩ (qs.set a ⟨aw, rl + (k : Int)⟩)) := ⟨HT.out.set hal _⟩
                        have y0 : W6.cell? ⟨p, 0, none⟩ = some (.int .i64 rw_) := by rw [hW6]; exact (World.cell?_setCell_far _ _ _ _ (Ne.symm hpg)).trans hq0
                        have y1 : W6.cell? ⟨p, 1, none⟩ = some (.int .i64 rl) := by rw [hW6]; exact (World.cell?_setCell_far _ _ _ _ (Ne.symm hpg)).trans hq1
                        rw [← hW6]
                        clear hW6 d0 d1 c0 c1 cv1 ch1 o0 o1 f0 f1 x0 x1 hq0 hq1
                        obtain ⟨d0, d1, c0, c1, cv1, ch1, _⟩ := HF.out W6 HBn.out
                        have hpair : ((qs.set a ⟨aw, rl + (k : Int)⟩).getD a z80).f1 = rl + (k : Int) := by rw [getD_setP _ _ _ _ (by rw [HT.out.len]; exact hal), if_pos rfl]
                        have hpair0 : ((qs.set a ⟨aw, rl + (k : Int)⟩).getD a z80).f0 = aw := by rw [getD_setP _ _ _ _ (by rw [HT.out.len]; exact hal), if_pos rfl]
                        have o0 := HPn.out.cell0 a (by rw [HTn.out.len]; exact hal)
                        rw [hpair0] at o0
                        have f0 := HPn.out.frozen (a * 2)
                        obtain ⟨rs, hrs⟩ : ∃ rs, qs.set a ⟨aw, rl + (k : Int)⟩ = rs := ⟨_, rfl⟩
                        rw [hrs] at HPn HTn hpair
                        clear hrs hpair0 haq
                        go_wp2_with fail
                        go_still_tail 13, (by kernel_rfl)
                        change wpList _ _ _ _ _ W6.drew
                        go_wp2
                        have HZ9 : Aside0 (RowP (W6.setCell ⟨g, a * 2, none⟩ (.int .i64 (aw + rw_))).drew g (rs.set a ⟨aw + rw_, rl + (k : Int)⟩)) := ⟨by
                          have h8 := (HPn.out.set0 a (aw + rw_) (by rw [HTn.out.len]; exact hal)).drew
                          rw [hpair] at h8
                          exact h8⟩
                        have HT9 : Aside0 (RowTo prev v h m a (cellAt prev v (a : Int) (k + 1)) (rs.set a ⟨aw + rw_, rl + (k : Int)⟩)) := ⟨by rw [HNX2.out]; exact HTn.out.set hal _⟩
                        have HB9 : Aside0 (Below g W1 (W6.setCell ⟨g, a * 2, none⟩ (.int .i64 (aw + rw_))).drew) := ⟨(HBn.out.setCell (Nat.le_refl _) _).drew⟩
                        go_roundg (cellK v h (a : Int) - (k + 1))
                        case measure => omega
                        case rel => exact ⟨k + 1, _, by omega, by omega, by go_num, HZ9, HT9, HB9⟩
                      · have hld : decide (rl + (k : Int) < al) = false := decide_eq_false hlt
                        have HNX2 : Aside0 (cellAt prev v (a : Int) (k + 1) = ⟨aw + rw_, al⟩) := ⟨by rw [HNX.out, if_neg (by omega)]⟩
                        have hpair : (qs.getD a z80).f1 = al := by rw [haq]
                        have HTn := Aside0.mk HT.out
                        have HBn := Aside0.mk HB5.out
                        clear HNX HCS HCX haq
                        go_wp2_with fail
                        go_still_tail 13, (by kernel_rfl)
                        change wpList _ _ _ _ _ W5.drew
                        go_wp2
                        have HZ9 : Aside0 (RowP (W5.setCell ⟨g, a * 2, none⟩ (.int .i64 (aw + rw_))).drew g (qs.set a ⟨aw + rw_, al⟩)) := ⟨by
                          have h8 := (HP5.out.set0 a (aw + rw_) (by rw [HTn.out.len]; exact hal)).drew
                          rw [hpair] at h8
                          exact h8⟩
                        have HT9 : Aside0 (RowTo prev v h m a (cellAt prev v (a : Int) (k + 1)) (qs.set a ⟨aw + rw_, al⟩)) := ⟨by rw [HNX2.out]; exact HTn.out.set hal _⟩
                        have HB9 : Aside0 (Below g W1 (W5.setCell ⟨g, a * 2, none⟩ (.int .i64 (aw + rw_))).drew) := ⟨(HBn.out.setCell (Nat.le_refl _) _).drew⟩
                        go_roundg (cellK v h (a : Int) - (k + 1))
                        case measure => omega
                        case rel => exact ⟨k + 1, _, by omega, by omega, by go_num, HZ9, HT9, HB9⟩
              · have hke : k = cellK v h (a : Int) := by omega
                have HTN : Aside0 (RowTo prev v h m (a + 1) z80 qs) := ⟨by have h9 := HT.out; rw [hke] at h9; exact h9.next⟩
                clear hke
                by_cases g1 : (k : Int) ≤ h
                · have hng : ¬ (k : Int) * v ≤ (a : Int) := fun h9 => hkl (HKI.out.2 ⟨g1, h9⟩)
                  obtain ⟨kv, hkv⟩ : ∃ kv : Nat, (k : Int) * v = kv := ⟨((k : Int) * v).toNat, by have := Int.mul_nonneg (show (0 : Int) ≤ k by omega) (show 0 ≤ v by omega); omega⟩
                  have hkb : (kv : Int) ≤ 4000000000 := by
                    rw [← hkv]
                    have h8 := Int.mul_le_mul_of_nonneg_left v2 (show (0 : Int) ≤ (k : Int) by omega)
                    omega
                  rw [hkv] at hng
                  have em1 : IntKind.i64.wrap ((k : Int) * v) = (kv : Int) := by rw [hkv, IntWalk.i64_in _ (by omega)]
                  have dg1 : decide ((k : Int) ≤ h) = true := decide_eq_true g1
                  have dg2 : decide ((kv : Int) ≤ (a : Int)) = false := decide_eq_false hng
                  clear hkv HKI
                  go_wp2
                  go_roundg (m - (a + 1))
                  case measure => omega
                  case rel => exact ⟨a + 1, qs, by omega, by omega, by go_num, HP, HTN, HB⟩
                · have dg1 : decide ((k : Int) ≤ h) = false := decide_eq_false g1
                  clear HKI
                  go_wp2
                  go_roundg (m - (a + 1))
                  case measure => omega
                  case rel => exact ⟨a + 1, qs, by omega, by omega, by go_num, HP, HTN, HB⟩
          · have hnl : ¬ (a : Int) < (m : Int) := by omega
            obtain rfl : m = a := by omega
            have HPE : Aside0 (RowP wr g (tab (e + 1))) := ⟨by rw [HTE.out, ← HT.out.all]; exact HP.out⟩
            have HR9 := Aside0.mk (HRW.out.next (d := e + 1) (by omega) HGS.out ((HB.out.block _ hgl).trans HK2.out) (fun j h1 h2 => (HB.out.block j h1).trans (HK1.out j h1 h2)) HPE.out)
            have HB9 : Aside0 (Below (b0 + 1) W0 wr) := ⟨HB1.out.trans (HB.out.mono (by omega))⟩
            go_wp2
            go_roundg (n + 1 - (e + 1 + 1))
            case measure => omega
            case rel => exact ⟨e + 1 + 1, _, _, by omega, by omega, by congr 1; omega, HR9, HB9⟩
    · have hltz : ¬ (0 : Int) ≤ (n : Int) - d := by omega
      have hdd : d = n + 1 := by omega
      have HC : Aside0 (Kd.C (Kd.slice 80 k80) wr (some ⟨b0 + 1, 0, none⟩) (n + 1) (tabT vs hs m)) := ⟨table_C (m := m) HRW.out.row HRW.out.len (by omega) (by omega) (fun j hj => by
        obtain ⟨a1, a2, _⟩ := HRW.out.at_ j (by omega) (by omega)
        exact ⟨a1, a2, HTL.out _⟩) HTN.out (fun j hj => HTT.out j hj)⟩
      have HBE : Aside0 (Below w.heap.size w wr) := ⟨by rw [HBS.out]; exact HBW.out.trans (BW.out.mono (by omega))⟩
      clear hdd
      go_wp2
      go_ret
      exact ⟨b0 + 1, by have h9 := HN1.out; subst h9; rfl, HC.out, HBE.out⟩
end Go.Proofs.Ytlcnjpibfjhibaa.Q
