/- Arrays of bools: rows of hours, and these of all stations. -/
import Derived.Test.YticfecncdpdanaaMA
import Derived.Laws.Rows
import Derived.Laws.IdiomCopy
import Derived.StillTailTactics
import Derived.DeepKeys
set_option linter.unusedVariables false
set_option linter.unusedSimpArgs false
namespace Go.Proofs.Yticfecncdpdanaa.Q
open Go.RowKit Go.Proofs.YticfecncdpdanaaW.PrintWords Go.Proofs.YticfecncdpdanaaW.PrintLast Go.Proofs.YticfecncdpdanaaW.PrintMore

/-- The cells of an array of bools. -/
@[irreducible] def bcells (G : List Bool) : Array Value := (G.map Value.bool).toArray
theorem bcells_def (G : List Bool) : bcells G = (G.map Value.bool).toArray := by unfold bcells; rfl
theorem bcells_size (G : List Bool) : (bcells G).size = G.length := by rw [bcells_def]; simp
theorem bcells_get (G : List Bool) (i : Nat) : (bcells G)[i]? = (G[i]?).map Value.bool := by rw [bcells_def]; simp
theorem bcells_get_lt (G : List Bool) (i : Nat) (h : i < G.length) : (bcells G)[i]? = some (.bool (G.getD i false)) := by
  rw [bcells_get, List.getElem?_eq_getElem h, List.getD_eq_getElem?_getD, List.getElem?_eq_getElem h]
  rfl
theorem bcells_set (G : List Bool) (i : Nat) (b : Bool) : (bcells G).setIfInBounds i (.bool b) = bcells (G.set i b) := by
  rw [bcells_def, bcells_def]
  apply Array.ext_getElem?
  intro j
  simp [Array.getElem?_setIfInBounds, List.getElem?_set]
theorem bcells_extract (G : List Bool) (i n : Nat) : (bcells G).extract i (i + n) = bcells ((G.drop i).take n) := by
  rw [bcells_def, bcells_def]
  apply Array.ext'
  simp
theorem bcells_list (G : List Bool) : (bcells G).toList = G.map Value.bool := by rw [bcells_def]
theorem zc67 : Try.zeroCells67 = bcells (List.replicate 2408 false) := by rw [bcells_def]; kernel_rfl
theorem zc65 : Try.zeroCells65 = bcells (List.replicate 301 false) := by rw [bcells_def]; kernel_rfl

theorem setCells_eq {b : Nat} {T : TypeId} : ∀ (vs : List Value) (o : Nat) (w : World) (old : Array Value), w.heap[b]? = some (.cells old T (0, 0)) → o + vs.length ≤ old.size → w.setCells b o vs = w.setRow b ((old.toList.take o ++ vs ++ old.toList.drop (o + vs.length)).toArray)
  | [], o, w, old, h, hs => by
    rw [World.setCells]
    have e : (old.toList.take o ++ [] ++ old.toList.drop (o + ([] : List Value).length)).toArray = old := by simp
    rw [e]
    unfold World.setRow
    cases w with
    | mk heap tape drawn os output =>
      simp only at h ⊢
      congr 1
      apply Array.ext_getElem?
      intro j
      rw [Array.getElem?_modify]
      split
      · rename_i hj
        subst hj
        rw [h]
        rfl
      · rfl
  | v :: r, o, w, old, h, hs => by
    rw [World.setCells]
    have h1 := heap_setCell_same w b o old T v h
    have hlen : (v :: r).length = r.length + 1 := rfl
    rw [setCells_eq r (o + 1) _ _ h1 (by rw [Array.size_setIfInBounds]; omega)]
    rw [setCell_eq_setRow w b o old T (0, 0) v h]
    have e : ((old.setIfInBounds o v).toList.take (o + 1) ++ r ++ (old.setIfInBounds o v).toList.drop (o + 1 + r.length)) = old.toList.take o ++ (v :: r) ++ old.toList.drop (o + (v :: r).length) := by
      rw [Array.toList_setIfInBounds]
      have hsz : old.toList.length = old.size := Array.length_toList
      have hol : o < old.toList.length := by omega
      rw [List.take_succ_eq_append_getElem (by rw [List.length_set]; exact hol), List.getElem_set_self, List.take_set_of_le (Nat.le_refl _), List.drop_set_of_lt (by omega)]
      rw [hlen, show o + 1 + r.length = o + (r.length + 1) by omega]
      simp
    rw [e]
    unfold World.setRow
    cases w with
    | mk heap tape drawn os output =>
      simp only at h ⊢
      congr 1
      apply Array.ext_getElem?
      intro j
      simp only [Array.getElem?_modify]
      split
      · rename_i hj
        subst hj
        rw [h]
        rfl
      · rfl
/-- A whole array is stored into its block. -/
theorem run_storeRow (w : World) (b : Nat) (T : TypeId) (F G : List Bool) (h : w.heap[b]? = some (.cells (bcells F) T (0, 0))) (hs : F.length = G.length) :
    Sem.run Try.prog (storeCells ⟨b, 0, none⟩ (bcells G).toList) w = .ok () (w.setRow b (bcells G)) := by
  have hc : ∀ j, j < (bcells G).toList.length → w.cell? ⟨b, 0 + 0 + j, none⟩ = some (.bool (F.getD j false)) := by
    intro j hj
    rw [Array.length_toList, bcells_size] at hj
    rw [cell_of_row w b _ _ _ _ h]
    simpa using bcells_get_lt F j (by omega)
  have e := run_storeCells_cells (P := Try.prog) b 0 (bcells G).toList 0 w (fun j hj => by rw [hc j hj]; rfl) (fun j hj => frozen_of_row w b _ _ _ h) (fun v hv => by
    rw [bcells_list] at hv
    obtain ⟨x, _, rfl⟩ := List.mem_map.1 hv
    rfl)
  rw [e, setCells_eq (T := T) _ _ _ _ h (by rw [Array.length_toList, bcells_size, bcells_size]; omega)]
  have e2 : ((bcells F).toList.take 0 ++ (bcells G).toList ++ (bcells F).toList.drop (0 + (bcells G).toList.length)).toArray = bcells G := by
    rw [List.drop_of_length_le (by rw [Array.length_toList, Array.length_toList, bcells_size, bcells_size]; omega)]
    simp
  rw [e2]
theorem setRow_alloc_at (W : World) (old c : Array Value) (T : TypeId) (n : Nat) (hn : n = W.heap.size) : (W.alloc (.cells old T)).setRow n c = W.alloc (.cells c T) := by
  subst hn
  unfold World.setRow World.alloc
  congr 1
  apply Array.ext_getElem?
  intro j
  simp only [Array.getElem?_modify, Array.getElem?_push]
  split
  · rename_i h
    subst h
    simp
  · rename_i h
    simp [Ne.symm h]
theorem setRow_alloc_past (W : World) (o : Obj) (c : Array Value) (n : Nat) (hn : n < W.heap.size) : (W.alloc o).setRow n c = (W.setRow n c).alloc o := by
  unfold World.setRow World.alloc
  congr 1
  apply Array.ext_getElem?
  intro j
  simp only [Array.getElem?_modify, Array.getElem?_push, Array.size_modify]
  split
  · rename_i h
    subst h
    rw [if_neg (by omega), if_neg (by omega)]
  · rfl
theorem row_at (W : World) (c : Array Value) (T : TypeId) (n : Nat) (hn : n = W.heap.size) : (W.alloc (.cells c T)).heap[n]? = some (.cells c T (0, 0)) := by
  subst hn
  exact heap_alloc_new W _
theorem row_past (W : World) (o : Obj) (n : Nat) (hn : n < W.heap.size) : (W.alloc o).heap[n]? = W.heap[n]? := heap_alloc_old W o hn
/-- A part of an array is read. -/
theorem run_loadPart (w : World) (b off n : Nat) (T : TypeId) (G : List Bool) (h : w.heap[b]? = some (.cells (bcells G) T (0, 0))) (hn : off + n ≤ G.length) :
    Sem.run Try.prog (loadCellsFrom ⟨b, off, none⟩ 0 n #[]) w = .ok (bcells ((G.drop off).take n)) w := by
  have e := run_loadCells_list (P := Try.prog) w ⟨b, off, none⟩ (bcells ((G.drop off).take n)).toList (fun j v hv => by
    have hadd : (⟨b, off, none⟩ : Addr).add j = ⟨b, off + j, none⟩ := by unfold Addr.add; split <;> simp_all
    rw [hadd, cell_of_row w b _ _ _ _ h, bcells_get]
    rw [bcells_list, List.getElem?_map] at hv
    rw [← hv]
    congr 1
    have hj : j < n := by
      rcases Nat.lt_or_ge j n with h | h
      · exact h
      · rw [List.getElem?_take_eq_none h] at hv
        simp at hv
    rw [List.getElem?_take_of_lt hj, List.getElem?_drop])
  have hl : (bcells ((G.drop off).take n)).toList.length = n := by rw [Array.length_toList, bcells_size]; simp; omega
  rw [hl] at e
  unfold loadCells at e
  simpa using e
theorem set_true (G : List Bool) (j i : Nat) (hj : j < G.length) : (G.set j true).getD i false = true ↔ i = j ∨ G.getD i false = true := by
  simp only [List.getD_eq_getElem?_getD]
  by_cases h : i = j
  · subst h
    rw [List.getElem?_set_self hj]
    simp
  · rw [List.getElem?_set_ne (Ne.symm h)]
    simp [h]
theorem part_getD (G : List Bool) (i n j : Nat) (hj : j < n) : ((G.drop i).take n).getD j false = G.getD (i + j) false := by
  simp only [List.getD_eq_getElem?_getD]
  rw [List.getElem?_take_of_lt hj, List.getElem?_drop]
theorem part_length (G : List Bool) (i n : Nat) (h : i + n ≤ G.length) : ((G.drop i).take n).length = n := by simp; omega
/-- Block b is an array of bools. -/
structure RowAt (w : World) (b : Nat) (T : TypeId) (G : List Bool) : Prop where
  mk ::
  out : w.heap[b]? = some (.cells (bcells G) T (0, 0))
theorem RowAt.lt {w : World} {b : Nat} {T : TypeId} {G : List Bool} (h : RowAt w b T G) : b < w.heap.size := (Array.getElem?_eq_some_iff.1 h.out).1
theorem RowAt.below {w w1 : World} {b B : Nat} {T : TypeId} {G : List Bool} (h : RowAt w b T G) (hb : Below B w w1) (hB : b < B) : RowAt w1 b T G := ⟨(hb.block b hB).trans h.out⟩
theorem RowAt.cell {w : World} {b : Nat} {T : TypeId} {G : List Bool} (h : RowAt w b T G) (i : Nat) (hi : i < G.length) : w.cell? ⟨b, i, none⟩ = some (.bool (G.getD i false)) := by
  rw [cell_of_row w b _ _ _ _ h.out, bcells_get_lt G i hi]
theorem RowAt.frozen {w : World} {b : Nat} {T : TypeId} {G : List Bool} (h : RowAt w b T G) (i : Nat) : w.frozen? ⟨b, i, none⟩ = false := frozen_of_row w b i _ _ h.out
theorem RowAt.set {w : World} {b : Nat} {T : TypeId} {G : List Bool} (h : RowAt w b T G) (i : Nat) (x : Bool) : RowAt (w.setCell ⟨b, i, none⟩ (.bool x)) b T (G.set i x) :=
  ⟨by rw [heap_setCell_same w b i _ _ _ h.out, bcells_set]⟩
theorem RowAt.row {w : World} {b : Nat} {T : TypeId} {F : List Bool} (h : RowAt w b T F) (G : List Bool) : RowAt (w.setRow b (bcells G)) b T G := ⟨setRow_heap w b _ _ _ _ h.out⟩
theorem RowAt.other {w : World} {b c : Nat} {T : TypeId} {G : List Bool} (h : RowAt w b T G) (cs : Array Value) (hc : b ≠ c) : RowAt (w.setRow c cs) b T G := ⟨by rw [setRow_other w c b cs hc]; exact h.out⟩
theorem RowAt.drew {w : World} {b : Nat} {T : TypeId} {G : List Bool} (h : RowAt w b T G) : RowAt w.drew b T G := ⟨h.out⟩
theorem RowAt.alloc {w : World} {b : Nat} {T : TypeId} {G : List Bool} (h : RowAt w b T G) (o : Obj) : RowAt (w.alloc o) b T G := ⟨(row_past w o b h.lt).trans h.out⟩
theorem RowAt.new (w : World) (b : Nat) (hb : b = w.heap.size) (T : TypeId) (G : List Bool) : RowAt (w.alloc (.cells (bcells G) T)) b T G := ⟨row_at w _ _ _ hb⟩
theorem below_setRow {B : Nat} {a w : World} (h : Below B a w) {b : Nat} (hb : B ≤ b) (cs : Array Value) : Below B a (w.setRow b cs) :=
  ⟨h.os, h.tape, h.output, by rw [size_setRow]; exact h.size, fun k hk => (setRow_other w b k cs (by omega)).trans (h.block k hk)⟩
/-- Only block b has been written. -/
structure Only (b : Nat) (w w' : World) : Prop where
  os : w'.os = w.os
  tape : w'.tape = w.tape
  output : w'.output = w.output
  size : w'.heap.size = w.heap.size
  block : ∀ k, k ≠ b → w'.heap[k]? = w.heap[k]?
theorem Only.refl (b : Nat) (w : World) : Only b w w := ⟨rfl, rfl, rfl, rfl, fun _ _ => rfl⟩
theorem Only.trans {b : Nat} {w w1 w2 : World} (h : Only b w w1) (k : Only b w1 w2) : Only b w w2 := ⟨k.os.trans h.os, k.tape.trans h.tape, k.output.trans h.output, k.size.trans h.size, fun i hi => (k.block i hi).trans (h.block i hi)⟩
theorem Only.drew {b : Nat} {w w1 : World} (h : Only b w w1) : Only b w w1.drew := ⟨h.os, h.tape, h.output, h.size, h.block⟩
theorem Only.drewN {b : Nat} {w w1 : World} (h : Only b w w1) (n : Nat) : Only b w (w1.drewN n) := ⟨h.os, h.tape, h.output, h.size, h.block⟩
theorem Only.setCell {b : Nat} {w w1 : World} (h : Only b w w1) (i : Nat) (v : Value) : Only b w (w1.setCell ⟨b, i, none⟩ v) :=
  ⟨h.os, h.tape, h.output, by simp [World.setCell]; exact h.size, fun k hk => (Below.heap_setCell w1 ⟨b, i, none⟩ v k hk).trans (h.block k hk)⟩
theorem Only.setRow {b : Nat} {w w1 : World} (h : Only b w w1) (cs : Array Value) : Only b w (w1.setRow b cs) :=
  ⟨h.os, h.tape, h.output, by rw [size_setRow]; exact h.size, fun k hk => (setRow_other w1 b k cs hk).trans (h.block k hk)⟩
theorem Only.below {b B : Nat} {w w1 : World} (h : Only b w w1) (hB : B ≤ b) : Below B w w1 := ⟨h.os, h.tape, h.output, Nat.le_of_eq h.size.symm, fun k hk => h.block k (by omega)⟩
theorem Only.cell {b : Nat} {w w1 : World} (h : Only b w w1) (c i : Nat) (hc : c ≠ b) : w1.cell? ⟨c, i, none⟩ = w.cell? ⟨c, i, none⟩ := World.cell?_of_block (w := w) (h.block c hc)
theorem RowAt.only {w w1 : World} {b c : Nat} {T : TypeId} {G : List Bool} (h : RowAt w c T G) (k : Only b w w1) (hc : c ≠ b) : RowAt w1 c T G := ⟨(k.block c hc).trans h.out⟩
theorem RowAt.drewN {w : World} {b : Nat} {T : TypeId} {G : List Bool} (h : RowAt w b T G) (n : Nat) : RowAt (w.drewN n) b T G := ⟨h.out⟩
section
variable {ops : Array Oper} {rest : List Oper} {o : Oper} {a : Act} {w : World} {Q : Exit → Act → World → Prop}
/-- A whole array is loaded. -/
theorem wpList_loadRow (T n : Nat) (e : TypeId) (hu : Try.prog.underlying T = some (.array n e)) (hi : ∀ k, (Try.prog.info? T).map (·.size) = some k → k = k) (m : Nat) (hm : (Try.prog.info? T).map (·.size) = some m)
    (hgd : o.guard = none) (x : Operand) (ho : o.op = .load T x) (g : Nat) (hx : a.eval x = .pointer (some ⟨g, 0, none⟩)) (T' : TypeId) (G : List Bool) (hg : RowAt w g T' G) (hG : G.length = m)
    (h : wpList Try.prog ops Q rest (a.put o.dst (.agg (bcells G))) w) : wpList Try.prog ops Q (o :: rest) a w :=
  wpList_load_row hgd T x ho g hx T' (bcells G) (0, 0) (.array n e) hg.out hu rfl (by rw [hm, bcells_size, hG]) h
theorem run_loadVarPart (T m : Nat) (d : TypeDesc) (hu : Try.prog.underlying T = some d) (hd : (match d with | .struct _ | .array _ _ => true | _ => false) = true) (hm : (Try.prog.info? T).map (·.size) = some m)
    (g off : Nat) (T' : TypeId) (G : List Bool) (hg : RowAt w g T' G) (hG : off + m ≤ G.length) : (loadVar T ⟨g, off, none⟩).run Try.prog w = .ok (.agg (bcells ((G.drop off).take m))) w := by
  have e := run_loadPart w g off m T' G hg.out hG
  cases hq : Try.prog.info? T with
  | none => simp [hq] at hm
  | some i =>
    have hs : i.size = m := by simpa [hq] using hm
    have hagg : (isAgg T).run Try.prog w = .ok true w := by
      unfold isAgg
      rw [Sem.run_bind, run_underlying hu w]
      cases d <;> simp_all
    unfold loadVar
    simp [Sem.run_bind, hagg, sizeOf, typeInfo, hq, hs, loadCells, e]
/-- The same in the quiet part of a region that draws its order. -/
theorem wpStill_loadPart {Qs : Act → Prop} (T m : Nat) (d : TypeDesc) (hu : Try.prog.underlying T = some d) (hd : (match d with | .struct _ | .array _ _ => true | _ => false) = true) (hm : (Try.prog.info? T).map (·.size) = some m)
    (hgd : o.guard = none) (x : Operand) (ho : o.op = .load T x) (g off : Nat) (hx : a.eval x = .pointer (some ⟨g, off, none⟩)) (T' : TypeId) (G : List Bool) (hg : RowAt w g T' G) (hG : off + m ≤ G.length)
    (h : wpStill Try.prog ops w Qs rest (a.put o.dst (.agg (bcells ((G.drop off).take m))))) : wpStill Try.prog ops w Qs (o :: rest) a := by
  have hl := run_loadVarPart (w := w) T m d hu hd hm g off T' G hg hG
  refine wpStill_step fun K hK => ?_
  have hw : Region.wanted o (yielded ops a.tmps) = true := by simp [Region.wanted, hgd]
  rw [if_pos hw]
  unfold Oper.still execOp
  simp only [ho, hx, Instr.loadAt, Instr.sureAddr, Sem.run_bind, Sem.run_pure, Result.andThen_ok, hl]
  rw [Oper.stillUpon_value]
  exact hK _ h
/-- A row of an array of rows is loaded. -/
theorem wpList_loadPart (T m : Nat) (d : TypeDesc) (hu : Try.prog.underlying T = some d) (hd : (match d with | .struct _ | .array _ _ => true | _ => false) = true) (hm : (Try.prog.info? T).map (·.size) = some m)
    (hgd : o.guard = none) (x : Operand) (ho : o.op = .load T x) (g off : Nat) (hx : a.eval x = .pointer (some ⟨g, off, none⟩)) (T' : TypeId) (G : List Bool) (hg : RowAt w g T' G) (hG : off + m ≤ G.length)
    (h : wpList Try.prog ops Q rest (a.put o.dst (.agg (bcells ((G.drop off).take m)))) w) : wpList Try.prog ops Q (o :: rest) a w := by
  refine wpList_plain hgd fun K hK => ?_
  have hl : (loadVar T ⟨g, off, none⟩).run Try.prog w = .ok (.agg (bcells ((G.drop off).take m))) w := by
    have e := run_loadPart w g off m T' G hg.out hG
    cases hq : Try.prog.info? T with
    | none => simp [hq] at hm
    | some i =>
      have hs : i.size = m := by simpa [hq] using hm
      have hagg : (isAgg T).run Try.prog w = .ok true w := by
        unfold isAgg
        rw [Sem.run_bind, run_underlying hu w]
        cases d <;> simp_all
      unfold loadVar
      simp [Sem.run_bind, hagg, sizeOf, typeInfo, hq, hs, loadCells, e]
  unfold Oper.wp execOp
  simp only [ho, hx, Instr.loadAt, Instr.sureAddr, Sem.run_bind, Sem.run_pure, Result.andThen_ok, hl]
  exact hK _ _ h
end
end Go.Proofs.Yticfecncdpdanaa.Q
/- Arrays of bools are equal just where their lists are. -/
set_option linter.unusedVariables false
set_option linter.unusedSimpArgs false
namespace Go.Proofs.Yticfecncdpdanaa.Q
open Go.RowKit Go.Proofs.YticfecncdpdanaaW.PrintWords Go.Proofs.YticfecncdpdanaaW.PrintLast Go.Proofs.YticfecncdpdanaaW.PrintMore

theorem eqItems_bool (d : Nat) (F G : List Bool) (hl : F.length = G.length) (w : World) : ∀ (is : List Nat), (∀ i ∈ is, i < F.length) → (Op.eqItems (d + 1) 4 1 (bcells F) (bcells G) is).run Try.prog w = .ok (is.all fun i => F.getD i false == G.getD i false) w
  | [], _ => by simp [Op.eqItems]
  | i :: is, h => by
    have hi := h i List.mem_cons_self
    have ih := eqItems_bool d F G hl w is (fun j hj => h j (List.mem_cons_of_mem _ hj))
    have a1 := bcells_get_lt F i hi
    have b1 := bcells_get_lt G i (by omega)
    have e := run_equalIn_bool (P := Try.prog) w d 4 (F.getD i false) (G.getD i false) Try.underlying4
    simp only [Op.eqItems, Sem.run_bind, part, Try.isAgg4, Result.andThen_ok, Nat.mul_one, Bool.false_eq_true, if_false, a1, b1, Sem.run_pure, e]
    cases hq : (F.getD i false == G.getD i false) with
    | true =>
      simp only [Bool.not_true, Bool.false_eq_true, if_false, ih, List.all_cons, hq, Bool.true_and]
    | false =>
      simp only [Bool.not_false, if_true, Sem.run_pure, List.all_cons, hq, Bool.false_and]
theorem all_range_eq (F G : List Bool) (n : Nat) (hF : F.length = n) (hG : G.length = n) : ((List.range n).all fun i => F.getD i false == G.getD i false) = decide (F = G) := by
  by_cases h : F = G
  · subst h
    simp
  · rw [decide_eq_false h]
    rw [List.all_eq_false]
    have : ∃ i, i < n ∧ F.getD i false ≠ G.getD i false := by
      apply Classical.byContradiction
      intro hn
      apply h
      apply List.ext_getElem (by omega)
      intro i h1 h2
      have := Classical.byContradiction (fun hne => hn ⟨i, by omega, hne⟩)
      simp only [List.getD_eq_getElem?_getD, List.getElem?_eq_getElem h1, List.getElem?_eq_getElem h2, Option.getD_some] at this
      exact this
    obtain ⟨i, hi, hne⟩ := this
    exact ⟨i, List.mem_range.2 hi, by simpa using hne⟩
theorem eq_hours (d : Nat) (F G : List Bool) (hF : F.length = 301) (hG : G.length = 301) (w : World) : (Op.equalIn (d + 2) 65 (.agg (bcells F)) (.agg (bcells G))).run Try.prog w = .ok (decide (F = G)) w := by
  obtain ⟨i, hi⟩ := info_of_underlying Try.underlying4
  have h1 := run_equalIn_array w (d + 1) (bcells F) (bcells G) Try.underlying65 hi
  have hc : Try.prog.cellsOf 4 = 1 := by kernel_rfl
  rw [hc] at h1
  rw [h1, eqItems_bool d F G (by omega) w _ (fun i hi => by have := List.mem_range.1 hi; omega), all_range_eq F G 301 hF hG]
theorem eqItems_hours (d : Nat) (F G : List Bool) (hF : F.length = 2408) (hG : G.length = 2408) (w : World) : ∀ (is : List Nat), (∀ i ∈ is, i < 8) →
    (Op.eqItems (d + 2) 65 301 (bcells F) (bcells G) is).run Try.prog w = .ok (is.all fun i => decide ((F.drop (i * 301)).take 301 = (G.drop (i * 301)).take 301)) w
  | [], _ => by simp [Op.eqItems]
  | i :: is, h => by
    have hi := h i List.mem_cons_self
    have ih := eqItems_hours d F G hF hG w is (fun j hj => h j (List.mem_cons_of_mem _ hj))
    have e := eq_hours d ((F.drop (i * 301)).take 301) ((G.drop (i * 301)).take 301) (part_length _ _ _ (by omega)) (part_length _ _ _ (by omega)) w
    simp only [Op.eqItems, Sem.run_bind, part, Try.isAgg65, Result.andThen_ok, Try.sizeOf65, if_true, Sem.run_pure, bcells_extract, e]
    by_cases hq : (F.drop (i * 301)).take 301 = (G.drop (i * 301)).take 301
    · simp only [hq, decide_true, Bool.not_true, Bool.false_eq_true, if_false, ih, List.all_cons, Bool.true_and]
    · simp only [hq, decide_false, Bool.not_false, if_true, Sem.run_pure, List.all_cons, Bool.false_and]
theorem all_parts_eq (F G : List Bool) (hF : F.length = 2408) (hG : G.length = 2408) : ((List.range 8).all fun i => decide ((F.drop (i * 301)).take 301 = (G.drop (i * 301)).take 301)) = decide (F = G) := by
  by_cases h : F = G
  · subst h
    simp
  · rw [decide_eq_false h, List.all_eq_false]
    apply Classical.byContradiction
    intro hn
    apply h
    apply List.ext_getElem (by omega)
    intro i h1 h2
    have e : (F.drop (i / 301 * 301)).take 301 = (G.drop (i / 301 * 301)).take 301 := by
      apply Classical.byContradiction
      intro hne
      exact hn ⟨i / 301, List.mem_range.2 (by omega), by simpa using hne⟩
    have e1 := part_getD F (i / 301 * 301) 301 (i % 301) (by omega)
    have e2 := part_getD G (i / 301 * 301) 301 (i % 301) (by omega)
    rw [e, e2] at e1
    have e3 : i / 301 * 301 + i % 301 = i := by omega
    rw [e3] at e1
    simp only [List.getD_eq_getElem?_getD, List.getElem?_eq_getElem h1, List.getElem?_eq_getElem h2, Option.getD_some] at e1
    exact e1.symm
theorem eq_arrivals (d : Nat) (F G : List Bool) (hF : F.length = 2408) (hG : G.length = 2408) (w : World) : (Op.equalIn (d + 3) 67 (.agg (bcells F)) (.agg (bcells G))).run Try.prog w = .ok (decide (F = G)) w := by
  obtain ⟨i, hi⟩ := info_of_underlying Try.underlying65
  have h1 := run_equalIn_array w (d + 2) (bcells F) (bcells G) Try.underlying67 hi
  have hc : Try.prog.cellsOf 65 = 301 := by kernel_rfl
  rw [hc] at h1
  rw [h1, eqItems_hours d F G hF hG w _ (fun i hi => List.mem_range.1 hi), all_parts_eq F G hF hG]
end Go.Proofs.Yticfecncdpdanaa.Q
