/- impl's canMatch, spec's l06Can. -/
import Derived.Test.YtlefddghiiigeaaOBase
import Derived.Lib.QuietBelow
import Derived.Deep.OwnRows
import Derived.StillTailTactics
set_option linter.unusedVariables false
set_option linter.unusedSimpArgs false
namespace Go.Proofs.Ytlefddghiiigeaa.Q
open Go.RowKit Go.Proofs.YtlefddghiiigeaaW.PrintWords Go.Proofs.YtlefddghiiigeaaW.PrintLast Go.Proofs.YtlefddghiiigeaaW.PrintMore
/-- The walk in the order of the text, shut in: nothing looks into it by running it. -/
structure WQ (P : Program) (ops : Array Oper) (C : World → Prop) (Q : Act → Prop) (l : List Oper) (a : Act) : Prop where
  out : wpQuiet P ops C Q l a
theorem WQ.nil {P : Program} {ops : Array Oper} {C : World → Prop} {Q : Act → Prop} {a : Act} (h : Q a) : WQ P ops C Q [] a := ⟨wpQuiet_nil h⟩
theorem WQ.step {P : Program} {ops : Array Oper} {C : World → Prop} {Q : Act → Prop} {a : Act} {o : Oper} {rest : List Oper}
    (h : ∀ K : Act → Prop, (∀ a, WQ P ops C Q rest a → K a) → if Region.wanted o (yielded ops a.tmps) then o.quiet P a C K else K (a.put o.dst undef)) : WQ P ops C Q (o :: rest) a :=
  ⟨wpQuiet_step fun K hK => h K fun a ha => hK a ha.out⟩
/-- Whether a return can be matched with an order. -/
def canB (o : S55) (r : S50) (days : Int) : Bool := (o.f0 == r.f0 && o.f1 == r.f1) && inB (r.f3 - o.f4) 0 days
set_option maxHeartbeats 1000000 in
set_option maxRecDepth 100000 in
theorem canMatch_is (a b n p d x y m q days : Int) (w : World) (d0 : -32768 ≤ d) (d1 : d ≤ 32767) (q0 : -32768 ≤ q) (q1 : q ≤ 32767) :
    Calls Try.prog 46 #[.agg #[.int .i8 a, .int .i8 b, .int .i16 n, .int .i16 p, .int .i16 d], .agg #[.int .i8 x, .int .i8 y, .int .i16 m, .int .i16 q], .int .i64 days] w fun e w' => e = .returned (.bool (canB ⟨a, b, n, p, d⟩ ⟨x, y, m, q⟩ days)) ∧ Below w.heap.size w w' := by
  have HB : Aside0 (∀ o1 o2, Below w.heap.size w ((w.alloc o1).alloc o2)) := ⟨fun o1 o2 => ((Below.refl _ _).alloc (Nat.le_refl _) _).alloc (by simp) _⟩
  have e1 : IntKind.i64.wrap q = q := IntWalk.i64_in _ (by omega)
  have e2 : IntKind.i64.wrap d = d := IntWalk.i64_in _ (by omega)
  have e3 : IntKind.i64.wrap (q - d) = q - d := IntWalk.i64_in _ (by omega)
  have E : Aside0 (canB ⟨a, b, n, p, d⟩ ⟨x, y, m, q⟩ days = ((a == x && b == y) && inB (q - d) 0 days)) := ⟨rfl⟩
  cases h1 : (a == x) with
  | false =>
    have ER : Aside0 (canB ⟨a, b, n, p, d⟩ ⟨x, y, m, q⟩ days = false) := ⟨by rw [E.out, h1]; rfl⟩
    go_enter Try.func46, Try.ntmps46
    go_wp2
    go_ret
    exact ⟨by rw [ER.out]; rfl, HB.out _ _⟩
  | true =>
    cases h2 : (b == y) with
    | false =>
      have ER : Aside0 (canB ⟨a, b, n, p, d⟩ ⟨x, y, m, q⟩ days = false) := ⟨by rw [E.out, h1, h2]; rfl⟩
      go_enter Try.func46, Try.ntmps46
      go_wp2
      go_ret
      exact ⟨by rw [ER.out]; rfl, HB.out _ _⟩
    | true =>
      have ER : Aside0 (canB ⟨a, b, n, p, d⟩ ⟨x, y, m, q⟩ days = inB (q - d) 0 days) := ⟨by rw [E.out, h1, h2]; rfl⟩
      go_enter Try.func46, Try.ntmps46
      go_wp2_with fail
      refine (within_is _ _ _ _ rfl _).mono ?_
      rintro e w' ⟨rfl, rfl⟩
      generalize inB (q - d) 0 days = z at *
      go_wp2
      go_ret
      exact ⟨by rw [ER.out]; rfl, HB.out _ _⟩
theorem canB_eq (o : S55) (r : S50) (days : Int) : canB o r days = ((o.f0 == r.f0 && o.f1 == r.f1) && (decide (o.f4 ≤ r.f3) && decide (r.f3 - o.f4 ≤ days))) := by
  unfold canB inB
  congr 1
  rw [Bool.eq_iff_iff]
  simp only [decide_eq_true_eq, Bool.and_eq_true]
  omega
set_option maxHeartbeats 4000000 in
set_option maxRecDepth 100000 in
theorem l06Can_is (p q : Addr) (o : S55) (r : S50) (days : Int) (w : World) (hq0 : -32768 ≤ r.f3 ∧ r.f3 ≤ 32767) (hd0 : -32768 ≤ o.f4 ∧ o.f4 ≤ 32767)
    (o0 : w.cell? p = some (.int .i8 o.f0)) (o1 : w.cell? ⟨p.block, p.off + 1, none⟩ = some (.int .i8 o.f1)) (o4 : w.cell? ⟨p.block, p.off + 4, none⟩ = some (.int .i16 o.f4))
    (r0 : w.cell? q = some (.int .i8 r.f0)) (r1 : w.cell? ⟨q.block, q.off + 1, none⟩ = some (.int .i8 r.f1)) (r3 : w.cell? ⟨q.block, q.off + 3, none⟩ = some (.int .i16 r.f3)) :
    Calls Try.prog 36 #[.pointer (some p), .pointer (some q), .int .i64 days] w fun e w' => e = .returned (.bool (canB o r days)) ∧ ∃ n, w' = w.drewN n := by
  obtain ⟨a, b, n, pr, d⟩ := o
  obtain ⟨x, y, m, qd⟩ := r
  simp only at hq0 hd0 o0 o1 o4 r0 r1 r3
  have e1 : IntKind.i64.wrap qd = qd := IntWalk.i64_in _ (by omega)
  have e2 : IntKind.i64.wrap d = d := IntWalk.i64_in _ (by omega)
  have e3 : IntKind.i64.wrap (qd - d) = qd - d := IntWalk.i64_in _ (by omega)
  have E : Aside0 (canB ⟨a, b, n, pr, d⟩ ⟨x, y, m, qd⟩ days = ((a == x && b == y) && (decide (d ≤ qd) && decide (qd - d ≤ days)))) := ⟨canB_eq _ _ _⟩
  cases h1 : (a == x) with
  | false =>
    have ER : Aside0 (canB ⟨a, b, n, pr, d⟩ ⟨x, y, m, qd⟩ days = false) := ⟨by rw [E.out, h1]; rfl⟩
    go_enter Try.func36, Try.ntmps36
    go_wp2_with fail
    go_quiet (fail)
    go_wp2
    go_ret
    exact ⟨by rw [ER.out]; rfl, _, rfl⟩
  | true =>
    cases h2 : (b == y) with
    | false =>
      have ER : Aside0 (canB ⟨a, b, n, pr, d⟩ ⟨x, y, m, qd⟩ days = false) := ⟨by rw [E.out, h1, h2]; rfl⟩
      go_enter Try.func36, Try.ntmps36
      go_wp2_with fail
      go_quiet (fail)
      go_wp2
      go_ret
      exact ⟨by rw [ER.out]; rfl, _, rfl⟩
    | true =>
      cases h3 : decide (d ≤ qd) with
      | false =>
        have ER : Aside0 (canB ⟨a, b, n, pr, d⟩ ⟨x, y, m, qd⟩ days = false) := ⟨by rw [E.out, h1, h2, h3]; rfl⟩
        go_enter Try.func36, Try.ntmps36
        go_wp2_with fail
        go_quiet (fail)
        go_wp2
        go_ret
        exact ⟨by rw [ER.out]; rfl, _, rfl⟩
      | true =>
        have ER : Aside0 (canB ⟨a, b, n, pr, d⟩ ⟨x, y, m, qd⟩ days = decide (qd - d ≤ days)) := ⟨by rw [E.out, h1, h2, h3]; rfl⟩
        go_enter Try.func36, Try.ntmps36
        go_wp2_with fail
        go_quiet (fail)
        go_wp2
        go_ret
        exact ⟨by rw [ER.out]; rfl, _, rfl⟩
end Go.Proofs.Ytlefddghiiigeaa.Q
