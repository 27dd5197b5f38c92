/- Rows of the call's own, whatever their elements: an empty one just made; one that is cut and whose rest is cleared; the builtin clear at elements of several cells. -/
import Derived.Test.YtlefddghiiigeaaQ0
import Derived.Lib.SliceRun
set_option linter.unusedVariables false
set_option linter.unusedSimpArgs false
namespace Go.Proofs.Ytlefddghiiigeaa.Q
open Go.RowKit Go.Proofs.YtlefddghiiigeaaW.PrintWords Go.Proofs.YtlefddghiiigeaaW.PrintLast Go.Proofs.YtlefddghiiigeaaW.PrintMore
theorem R_empty {α : Type} (d : Kd α) (e : Nat) (W : World) (base : Nat) (ok : Nat → Prop) (b : Nat) (he : b = W.heap.size) (hb : base ≤ W.heap.size) (ho : ok W.heap.size) : d.R e (W.alloc (.cells #[] e)) base ok (.slice (some ⟨b, 0, none⟩) 0 0) ([] : List α) := by
  subst he
  refine ⟨fun k hk => ?_, [], World.ownsRow_made W #[] 0 hb (by decide) (by simp), Reps.none _ _⟩
  have : W.heap.size = k := by simpa [Value.ownBlock] using hk
  exact this ▸ ho
/-- A row that is cut at i: whatever is laid behind that does not touch it. -/
theorem R_beyond {α : Type} {d : Kd α} {e : Nat} {W : World} {base g i cap o : Nat} {ok : Nat → Prop} {xs : List α} (h : d.R e W base ok (.slice (some ⟨g, 0, none⟩) i cap) xs) (hE : d.E = []) (vs : List Value) (ho : i * d.sz ≤ o) (hv : o + vs.length ≤ cap * d.sz) :
    d.R e (W.setCells g o vs) base ok (.slice (some ⟨g, 0, none⟩) i cap) xs := by
  obtain ⟨hn, hnc, _⟩ := Kd.R_reads' h
  obtain ⟨hok, inner, ⟨ho1, ho2⟩, hr⟩ := h
  rcases ho2 with ⟨hv', _⟩ | ⟨g', cap', cur, hv', hb, hh, hnc', hcm, hcs, ht⟩
  · cases hv'
  injection hv' with ha _ hc
  injection ha with ha
  injection ha with hg
  subst hg; subst hc
  obtain ⟨cur', h3, h4, h5⟩ := setCells_row vs o W cur hh (by omega)
  refine ⟨hok, inner, ⟨ho1, .inr ⟨g, cap, cur', by rw [← hn], hb, h3, hnc', hcm, by rw [h4, hcs], ?_⟩⟩, hr.imp_ (fun x cs hp => ?_)⟩
  · rw [h5, ← ht, ← hn]
    have hol : o ≤ cur.toList.length := by rw [Array.length_toList]; omega
    rw [List.append_assoc, List.take_append_of_le_length (by rw [List.length_take]; omega), List.take_take, Nat.min_eq_left (by omega)]
  · have hb' := d.M_bound hp
    refine d.M_mono (fun k hk => hk.1) (d.M_move (ok := fun k => _ ∧ base ≤ k ∧ k < W.heap.size ∧ ∃ q, q ∈ d.E ∧ ∃ cells, W.heap[k]? = some (.cells cells q (0, 0))) (fun k hk => ?_) hb')
    obtain ⟨_, _, _, q, hq, _⟩ := hk
    rw [hE] at hq
    cases hq
theorem run_clear_cells {P : Program} (w : World) (t e ty : TypeId) (z : Value) (ht : P.underlying t = some (.slice e)) (hv : ∀ w, (zeroValue e).run P w = .ok z w) (n : Nat) (zs : List Value) (hz : (Builtin.zeroCells z.cells n).toList = zs) (h1 : ∀ v ∈ zs, v.oneCell' = true) (b o c : Nat) (hn : 0 < n)
    (hc : ∀ j, j < zs.length → (w.cell? ⟨b, o + j, none⟩).isSome = true) (hf : ∀ j, j < zs.length → w.frozen? ⟨b, o + j, none⟩ = false) :
    (Builtin.clear_ #[t] ty #[.slice (some ⟨b, o, none⟩) n c]).run P w = .ok (.tuple #[]) (w.setCells b o zs) := by
  have hst := run_storeCells_cells (P := P) b o zs 0 w (by simpa using hc) (by simpa using hf) h1
  simp only [Nat.add_zero] at hst
  obtain ⟨m, rfl⟩ : ∃ m, n = m + 1 := ⟨n - 1, by omega⟩
  simp [Builtin.clear_, run_underlying ht, hv, hz, hst]
theorem R_cellAt {α : Type} {d : Kd α} {e : Nat} {W : World} {base g n cap : Nat} {ok : Nat → Prop} {xs : List α} (h : d.R e W base ok (.slice (some ⟨g, 0, none⟩) n cap) xs) (z : α) (hs : 0 < d.sz) (o : Nat) (ho : o < n * d.sz) : (W.cell? ⟨g, o, none⟩).isSome = true ∧ W.frozen? ⟨g, o, none⟩ = false := by
  have hlt : o / d.sz < n := (Nat.div_lt_iff_lt_mul hs).2 ho
  obtain ⟨q, hq⟩ : ∃ q : Nat, q = o / d.sz := ⟨_, rfl⟩
  rw [← hq] at hlt
  obtain ⟨c, hcl, _, hcc, hfr⟩ := Kd.R_elem h z ((q : Nat) : Int) (by omega) (by omega)
  have hm : o % d.sz < c.length := by rw [hcl]; exact Nat.mod_lt _ hs
  have h1 := hcc (o % d.sz) _ (List.getElem?_eq_getElem hm)
  have h2 := hfr (o % d.sz)
  rw [Int.toNat_natCast, hq, show o / d.sz * d.sz + o % d.sz = o by rw [Nat.mul_comm]; exact Nat.div_add_mod o d.sz] at h1 h2
  exact ⟨by rw [h1]; rfl, h2⟩
theorem zeroCells_one (zero : Array Value) (h : ∀ i, i < zero.size → (zero[i]!).oneCell' = true) (hs : 0 < zero.size) (n : Nat) : ∀ v ∈ (Builtin.zeroCells zero n).toList, v.oneCell' = true := by
  intro v hv
  simp only [Builtin.zeroCells, Array.toList_map, List.mem_map] at hv
  obtain ⟨i, _, rfl⟩ := hv
  exact h _ (Nat.mod_lt _ hs)
theorem zeroCells_length (zero : Array Value) (n : Nat) : (Builtin.zeroCells zero n).toList.length = n * zero.size := by
  simp [Builtin.zeroCells]
end Go.Proofs.Ytlefddghiiigeaa.Q
