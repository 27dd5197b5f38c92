/- What a value that comes in as data holds: integers, structs of integers, slices of these, told by the kinds of the printed words. -/
import Derived.Test.YtlefddghiiigeaaProg
import Derived.Test.YtlefddghiiigeaaWMore
import Derived.WalkKit
import Derived.ProofKit
import Derived.OpenShut
import Derived.ShutString
import Derived.ChangeOld
import Derived.Below
import Derived.SizedLaws
import Derived.Deep.Slices
set_option linter.unusedVariables false
namespace Go.Proofs.Ytlefddghiiigeaa.Open
open Go.RowKit Go.ChangeShapes Go.WideShapes Go.Proofs.YtlefddghiiigeaaW.PrintWords

/-- Whatever reads as data of type t is of the kind d, and wf holds of it. -/
structure Opens {α : Type} (P : Program) (t : TypeId) (d : Kd α) (wf : α → Prop) : Prop where
  op : ∀ {H : Type} {enc : TypeId × Value → H} {w : World} {n : Nat} {cs : List Value} {x : DataW H × List MemPlace},
    DataW.trod enc P w 0 (fun _ => true) true n t cs = some x → ∃ y, d.K w y cs ∧ wf y
  sz : P.cellsOf t = d.sz
/-- The same of several types in line. -/
structure OpensL {α : Type} (P : Program) (ts : List TypeId) (d : Kd α) (wf : α → Prop) : Prop where
  op : ∀ {H : Type} {enc : TypeId × Value → H} {w : World} {n : Nat} {cs : List Value},
    cs.length = d.sz → (∀ j t, ts[j]? = some t → ∃ x, DataW.trod enc P w 0 (fun _ => true) true n t ((cs.drop (((ts.take j).map P.cellsOf).sum)).take (P.cellsOf t)) = some x) → ∃ y, d.K w y cs ∧ wf y

theorem opens_int {P : Program} {t : TypeId} {k : IntKind} (ht : P.underlying t = some (.int k)) (hs : P.cellsOf t = 1) : Opens P t (Kd.int k) (fun n => (Lit.int k n).wf = true) := by
  refine ⟨fun h => ?_, hs⟩
  obtain ⟨n, e, _, hw⟩ := DataW.trod_int ht h
  exact ⟨n, e, hw⟩
theorem opens_bool {P : Program} {t : TypeId} (ht : P.underlying t = some .bool) (hs : P.cellsOf t = 1) : Opens P t Kd.bool (fun _ => True) := by
  refine ⟨fun h => ?_, hs⟩
  obtain ⟨n, e, _⟩ := DataW.trod_bool ht h
  exact ⟨n, e, trivial⟩
theorem opens_string {P : Program} {t : TypeId} (ht : P.underlying t = some .string) (hs : P.cellsOf t = 1) : Opens P t Kd.string (fun s => s.size ≤ maxLen) := by
  refine ⟨fun h => ?_, hs⟩
  obtain ⟨n, e, _, hw⟩ := DataW.trod_string ht h
  exact ⟨n, e, hw⟩
theorem opensL_one {α : Type} {P : Program} {t : TypeId} {d : Kd α} {wf : α → Prop} (h : Opens P t d wf) : OpensL P [t] d wf := by
  refine ⟨fun hl hx => ?_⟩
  obtain ⟨x, hx⟩ := hx 0 t rfl
  simp only [List.take_zero, List.map_nil, List.sum_nil, List.drop_zero, h.sz, ← hl, List.take_length] at hx
  exact h.op hx
theorem opensL_cons {α β : Type} {P : Program} {t : TypeId} {ts : List TypeId} {a : Kd α} {b : Kd β} {wa : α → Prop} {wb : β → Prop} (ha : Opens P t a wa) (hb : OpensL P ts b wb) :
    OpensL P (t :: ts) (Kd.pair a b) (fun y => wa y.1 ∧ wb y.2) := by
  refine ⟨fun {H enc w n cs} hl hx => ?_⟩
  have hl' : cs.length = a.sz + b.sz := hl
  obtain ⟨x, h0⟩ := hx 0 t rfl
  simp only [List.take_zero, List.map_nil, List.sum_nil, List.drop_zero, ha.sz] at h0
  obtain ⟨y0, k0, w0⟩ := ha.op h0
  obtain ⟨y1, k1, w1⟩ := hb.op (H := H) (enc := enc) (w := w) (n := n) (cs := cs.drop a.sz) (by rw [List.length_drop]; omega) (fun j u hj => by
    obtain ⟨x, h1⟩ := hx (j + 1) u (by simpa using hj)
    refine ⟨x, ?_⟩
    rw [List.take_succ_cons, List.map_cons, List.sum_cons, ha.sz] at h1
    rw [List.drop_drop]
    exact h1)
  exact ⟨(y0, y1), ⟨cs.take a.sz, cs.drop a.sz, (List.take_append_drop _ _).symm, k0, k1⟩, w0, w1⟩
/-- A struct whose fields lie in line. -/
theorem opens_struct {α β : Type} {P : Program} {t : TypeId} {fs : Array Field} {ts : List TypeId} {d : Kd α} {wf : α → Prop} (f : β → α) (g : α → β) (hfg : ∀ x, f (g x) = x) (ht : P.underlying t = some (.struct fs))
    (hs : P.cellsOf t = d.sz) (hfs : ∀ j u, ts[j]? = some u → ∃ q, fs[j]? = some q ∧ q.type = u ∧ q.offset = ((ts.take j).map P.cellsOf).sum) (h : OpensL P ts d wf) :
    Opens P t (Kd.iso d f) (fun y => wf (f y)) := by
  refine ⟨fun {H enc w n cs x} hx => ?_, hs⟩
  obtain ⟨xs, m, rfl, _, hl, hxl, hf⟩ := DataW.trod_struct ht hx
  obtain ⟨y, hk, hw⟩ := h.op (H := H) (enc := enc) (w := w) (n := m) (cs := cs) (by rw [hl, hs]) (fun j u hj => by
    obtain ⟨q, h1, h2, h3⟩ := hfs j u hj
    have h4 := hf j q h1
    have hlt : j < xs.length := by
      rw [hxl]
      exact (Array.getElem?_eq_some_iff.1 h1).1
    rw [List.getElem?_eq_getElem hlt] at h4
    subst h2
    rw [h3] at h4
    exact ⟨_, h4⟩)
  exact ⟨g y, by show d.K w (f (g y)) cs; rw [hfg]; exact hk, by show wf (f (g y)); rw [hfg]; exact hw⟩
theorem cells?_get {w : World} {base : Nat} {a : Addr} {k : Nat} {cs : List Value} (h : w.cells? base a k = some cs) : cs.length = k ∧ ∀ i u, cs[i]? = some u → w.cell? (a.add i) = some u := by
  obtain ⟨_, h2, h3⟩ := World.cells?_some h
  refine ⟨h2, fun i u hu => ?_⟩
  have := h3 i (by rw [← h2]; exact (List.getElem?_eq_some_iff.1 hu).1)
  rw [hu] at this
  exact this
theorem opens_slice {α : Type} {P : Program} {t e : TypeId} {d : Kd α} {wf : α → Prop} (ht : P.underlying t = some (.slice e)) (hs : P.cellsOf t = 1) (h : Opens P e d wf) :
    Opens P t (Kd.slice e d) (fun xs => xs.length ≤ maxLen ∧ ∀ x ∈ xs, wf x) := by
  refine ⟨fun {H enc w n cs x} hx => ?_, hs⟩
  rcases Deep.open_slice ht hx with ⟨rfl, _⟩ | ⟨a, len, cap, m, k, D, Pl, rfl, _, hl, hm, hmm, _, hi⟩
  · exact ⟨[], ⟨none, 0, rfl, Nat.le_refl _, rfl, by simp, fun h => by simp at h⟩, by simp [maxLen], fun x hx => by cases hx⟩
  · have hlm : len ≤ m := by rw [hmm]; simpa using hl
    have key : ∀ i, i < len → ∃ y, (∃ c, c.length = d.sz ∧ d.K w y c ∧ ∀ j u, c[j]? = some u → w.cell? (a.add (i * d.sz + j)) = some u) ∧ wf y := by
      intro i hlt
      obtain ⟨c, h1, h2⟩ := hi i (by omega)
      rw [h.sz] at h1
      obtain ⟨h3, h4⟩ := cells?_get h1
      obtain ⟨y, hk, hw⟩ := h.op h2
      refine ⟨y, ⟨c, h3, hk, fun j u hu => ?_⟩, hw⟩
      have := h4 j u hu
      rw [Deep.add_add] at this
      exact this
    have all : ∀ n, n ≤ len → ∃ ys : List α, ys.length = n ∧ ∀ i y, ys[i]? = some y → (∃ c, c.length = d.sz ∧ d.K w y c ∧ ∀ j u, c[j]? = some u → w.cell? (a.add (i * d.sz + j)) = some u) ∧ wf y := by
      intro n
      induction n with
      | zero => exact fun _ => ⟨[], rfl, fun i y hy => by simp at hy⟩
      | succ n ih =>
        intro hn
        obtain ⟨ys, h1, h2⟩ := ih (by omega)
        obtain ⟨y, hy⟩ := key n (by omega)
        refine ⟨ys ++ [y], by simp [h1], fun i z hz => ?_⟩
        rcases Nat.lt_or_ge i ys.length with hlt | hge
        · rw [List.getElem?_append_left hlt] at hz
          exact h2 i z hz
        · have : i = ys.length := by
            have := (List.getElem?_eq_some_iff.1 hz).1
            simp at this
            omega
          subst this
          simp at hz
          subst hz
          rw [h1]
          exact hy
    obtain ⟨ys, h1, h2⟩ := all len (Nat.le_refl _)
    have hmx : len ≤ maxLen := Nat.le_trans hl hm
    refine ⟨ys, ⟨some a, cap, by rw [h1], by rw [h1]; exact hl, rfl, by rw [h1]; exact hmx, fun _ => ⟨a, rfl, fun j p hj => (h2 j p hj).1⟩⟩, by rw [h1]; exact hmx, fun x hx => ?_⟩
    obtain ⟨i, hi⟩ := List.mem_iff_getElem?.1 hx
    exact (h2 i x hi).2
/-- An argument that comes in: its cells are of the kind. -/
theorem opened {α : Type} {P : Program} {t : TypeId} {d : Kd α} {wf : α → Prop} (h : Opens P t d wf) {H : Type} {enc : TypeId × Value → H} {w : World} {v : Value} {x : DataW H} {p : List MemPlace}
    (hx : DataW.Trod enc P w 0 (fun _ => true) true t v x p) : ∃ y, d.K w y v.cells.toList ∧ wf y := by
  obtain ⟨n, hn⟩ := hx
  exact h.op hn
end Go.Proofs.Ytlefddghiiigeaa.Open
