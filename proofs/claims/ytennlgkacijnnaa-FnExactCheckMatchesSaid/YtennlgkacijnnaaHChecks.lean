/- impl's canMatch, the closure of CheckMatches, rows of whole numbers in memory. -/
import Derived.Test.YtennlgkacijnnaaHRefund
import Derived.Laws.Rows
import Derived.Lib.QuietBelow
set_option linter.unusedVariables false
set_option linter.unusedSimpArgs false
namespace Go.Proofs.Ytennlgkacijnnaa.Q
open Go.RowKit Go.Proofs.YtennlgkacijnnaaW.PrintWords Go.Proofs.YtennlgkacijnnaaW.PrintLast Go.Proofs.YtennlgkacijnnaaW.PrintMore
/-- The walk in the order of the text, shut in: nothing looks into it by running it. -/
structure WQ (P : Program) (ops : Array Oper) (C : World → Prop) (Q : Act → Prop) (l : List Oper) (a : Act) : Prop where
  out : wpQuiet P ops C Q l a
theorem WQ.nil {P : Program} {ops : Array Oper} {C : World → Prop} {Q : Act → Prop} {a : Act} (h : Q a) : WQ P ops C Q [] a := ⟨wpQuiet_nil h⟩
theorem WQ.step {P : Program} {ops : Array Oper} {C : World → Prop} {Q : Act → Prop} {a : Act} {o : Oper} {rest : List Oper}
    (h : ∀ K : Act → Prop, (∀ a, WQ P ops C Q rest a → K a) → if Region.wanted o (yielded ops a.tmps) then o.quiet P a C K else K (a.put o.dst undef)) : WQ P ops C Q (o :: rest) a :=
  ⟨wpQuiet_step fun K hK => h K fun a ha => hK a ha.out⟩
/-- Whether a return can be matched with an order. -/
def canB (o : S75) (r : S81) (days : Int) : Bool := (o.f0 == r.f0 && o.f1 == r.f1) && inB (r.f3 - o.f4) 0 days
set_option maxHeartbeats 1000000 in
set_option maxRecDepth 100000 in
theorem canMatch_is (a b n p d x y m q days : Int) (w : World) (d0 : -32768 ≤ d) (d1 : d ≤ 32767) (q0 : -32768 ≤ q) (q1 : q ≤ 32767) :
    Calls Try.prog 88 #[.agg #[.int .i8 a, .int .i8 b, .int .i16 n, .int .i16 p, .int .i16 d], .agg #[.int .i8 x, .int .i8 y, .int .i16 m, .int .i16 q], .int .i64 days] w fun e w' => e = .returned (.bool (canB ⟨a, b, n, p, d⟩ ⟨x, y, m, q⟩ days)) ∧ Below w.heap.size w w' := by
  have HB : Aside0 (∀ o1 o2, Below w.heap.size w ((w.alloc o1).alloc o2)) := ⟨fun o1 o2 => ((Below.refl _ _).alloc (Nat.le_refl _) _).alloc (by simp) _⟩
  have e1 : IntKind.i64.wrap q = q := IntWalk.i64_in _ (by omega)
  have e2 : IntKind.i64.wrap d = d := IntWalk.i64_in _ (by omega)
  have e3 : IntKind.i64.wrap (q - d) = q - d := IntWalk.i64_in _ (by omega)
  have E : Aside0 (canB ⟨a, b, n, p, d⟩ ⟨x, y, m, q⟩ days = ((a == x && b == y) && inB (q - d) 0 days)) := ⟨rfl⟩
  cases h1 : (a == x) with
  | false =>
    have ER : Aside0 (canB ⟨a, b, n, p, d⟩ ⟨x, y, m, q⟩ days = false) := ⟨by rw [E.out, h1]; rfl⟩
    go_enter Try.func88, Try.ntmps88
    go_wp2
    go_ret
    exact ⟨by rw [ER.out]; rfl, HB.out _ _⟩
  | true =>
    cases h2 : (b == y) with
    | false =>
      have ER : Aside0 (canB ⟨a, b, n, p, d⟩ ⟨x, y, m, q⟩ days = false) := ⟨by rw [E.out, h1, h2]; rfl⟩
      go_enter Try.func88, Try.ntmps88
      go_wp2
      go_ret
      exact ⟨by rw [ER.out]; rfl, HB.out _ _⟩
    | true =>
      have ER : Aside0 (canB ⟨a, b, n, p, d⟩ ⟨x, y, m, q⟩ days = inB (q - d) 0 days) := ⟨by rw [E.out, h1, h2]; rfl⟩
      go_enter Try.func88, Try.ntmps88
      go_wp2_with fail
      refine (within_is _ _ _ _ rfl _).mono ?_
      rintro e w' ⟨rfl, rfl⟩
      generalize inB (q - d) 0 days = z at *
      go_wp2
      go_ret
      exact ⟨by rw [ER.out]; rfl, HB.out _ _⟩
/-- Whether a match is of the same return and order. -/
def sameM (m0 m1 : Int) (x : S102) : Bool := x.f0 == m0 && x.f1 == m1
set_option maxHeartbeats 1000000 in
theorem twice_pred (B : Nat) (m0 m1 : Int) (ms : List S102) (w : World) (h1 : B < w.heap.size) (k0 : w.cell? ⟨B, 0, none⟩ = some (.int .i8 m0)) (k1 : w.cell? ⟨B, 1, none⟩ = some (.int .i8 m1)) :
    PredMatch 87 #[.pointer (some ⟨B, 0, none⟩)] (sameM m0 m1) ms w := by
  intro W x hx hb
  have d0 := (hb.cell (p := ⟨B, 0, none⟩) h1).trans k0
  have d1 := (hb.cell (p := ⟨B, 1, none⟩) h1).trans k1
  have hB1 : B < W.heap.size := Nat.lt_of_lt_of_le h1 hb.size
  obtain ⟨a, b, m⟩ := x
  clear k0 k1 hx hb h1
  simp only [List.append_toArray, List.cons_append, List.nil_append]
  have E : Aside0 (sameM m0 m1 ⟨a, b, m⟩ = (a == m0 && b == m1)) := ⟨rfl⟩
  cases hq : (a == m0) with
  | false =>
    have ER : Aside0 (sameM m0 m1 ⟨a, b, m⟩ = false) := ⟨by rw [E.out, hq]; rfl⟩
    go_enter Try.func87, Try.ntmps87
    go_wp2
    go_ret
    exact ⟨by rw [ER.out]; rfl, (Below.refl _ _).alloc (Nat.le_refl _) _⟩
  | true =>
    have ER : Aside0 (sameM m0 m1 ⟨a, b, m⟩ = (b == m1)) := ⟨by rw [E.out, hq]; rfl⟩
    go_enter Try.func87, Try.ntmps87
    go_wp2
    go_ret
    exact ⟨by rw [ER.out]; rfl, (Below.refl _ _).alloc (Nat.le_refl _) _⟩
/-- A block holds just these whole numbers. -/
structure RowI (w : World) (b : Nat) (xs : List Int) : Prop where
  out : w.heap[b]? = some (.cells (nums .i64 xs).toArray 2 (0, 0))
theorem RowI.lt {w : World} {b : Nat} {xs : List Int} (h : RowI w b xs) : b < w.heap.size := (Array.getElem?_eq_some_iff.1 h.out).1
theorem RowI.below {w w1 : World} {b B : Nat} {xs : List Int} (h : RowI w b xs) (hb : Below B w w1) (hB : b < B) : RowI w1 b xs := ⟨(hb.block b hB).trans h.out⟩
theorem RowI.alloc {w : World} {b : Nat} {xs : List Int} (h : RowI w b xs) (o : Obj) : RowI (w.alloc o) b xs := h.below ((Below.refl w.heap.size w).alloc (Nat.le_refl _) o) h.lt
theorem RowI.drew {w : World} {b : Nat} {xs : List Int} (h : RowI w b xs) : RowI w.drew b xs := ⟨h.out⟩
theorem RowI.drewN {w : World} {b : Nat} {xs : List Int} (h : RowI w b xs) (n : Nat) : RowI (w.drewN n) b xs := ⟨h.out⟩
theorem RowI.cell {w : World} {b : Nat} {xs : List Int} (h : RowI w b xs) (i : Nat) (hi : i < xs.length) : w.cell? ⟨b, i, none⟩ = some (.int .i64 (xs.getD i 0)) := by
  rw [cell_of_row w b i _ _ (0, 0) h.out]
  simp [nums, List.getD_eq_getElem?_getD, hi]
theorem RowI.frozen {w : World} {b : Nat} {xs : List Int} (h : RowI w b xs) (i : Nat) : w.frozen? ⟨b, i, none⟩ = false := frozen_of_row w b i _ _ h.out
theorem nums_set (xs : List Int) (i : Nat) (n : Int) : (nums .i64 xs).toArray.setIfInBounds i (.int .i64 n) = (nums .i64 (xs.set i n)).toArray := by
  apply Array.ext'
  simp [nums]
theorem RowI.set {w : World} {b : Nat} {xs : List Int} (h : RowI w b xs) (i : Nat) (n : Int) : RowI (w.setCell ⟨b, i, none⟩ (.int .i64 n)) b (xs.set i n) := ⟨by
  rw [heap_setCell_same w b i _ _ _ h.out, nums_set]⟩
theorem RowI.other {w : World} {b c i : Nat} {xs : List Int} {v : Value} (h : RowI w b xs) (hc : b ≠ c) : RowI (w.setCell ⟨c, i, none⟩ v) b xs := ⟨by
  rw [heap_setCell_other w ⟨c, i, none⟩ b v hc]; exact h.out⟩
end Go.Proofs.Ytennlgkacijnnaa.Q
