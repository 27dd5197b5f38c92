/- spec's l06Can and CheckMatches. -/
import Derived.Test.YtennlgkacijnnaaHCheckM
import Derived.Test.YtennlgkacijnnaaSpec6O
import Derived.Test.YtennlgkacijnnaaSpec6V
import Derived.Deep.OwnRows
import Derived.StillTailTactics
set_option linter.unusedVariables false
set_option linter.unusedSimpArgs false
namespace Go.Proofs.Ytennlgkacijnnaa.Q
open Go.RowKit Go.Proofs.YtennlgkacijnnaaW.PrintWords Go.Proofs.YtennlgkacijnnaaW.PrintLast Go.Proofs.YtennlgkacijnnaaW.PrintMore
theorem canB_eq (o : S75) (r : S81) (days : Int) : canB o r days = ((o.f0 == r.f0 && o.f1 == r.f1) && (decide (o.f4 ≤ r.f3) && decide (r.f3 - o.f4 ≤ days))) := by
  unfold canB inB
  congr 1
  rw [Bool.eq_iff_iff]
  simp only [decide_eq_true_eq, Bool.and_eq_true]
  omega
set_option maxHeartbeats 4000000 in
set_option maxRecDepth 100000 in
theorem l06Can_is (p q : Addr) (o : S75) (r : S81) (days : Int) (w : World) (hq0 : -32768 ≤ r.f3 ∧ r.f3 ≤ 32767) (hd0 : -32768 ≤ o.f4 ∧ o.f4 ≤ 32767)
    (o0 : w.cell? p = some (.int .i8 o.f0)) (o1 : w.cell? ⟨p.block, p.off + 1, none⟩ = some (.int .i8 o.f1)) (o4 : w.cell? ⟨p.block, p.off + 4, none⟩ = some (.int .i16 o.f4))
    (r0 : w.cell? q = some (.int .i8 r.f0)) (r1 : w.cell? ⟨q.block, q.off + 1, none⟩ = some (.int .i8 r.f1)) (r3 : w.cell? ⟨q.block, q.off + 3, none⟩ = some (.int .i16 r.f3)) :
    Calls Try.prog 84 #[.pointer (some p), .pointer (some q), .int .i64 days] w fun e w' => e = .returned (.bool (canB o r days)) ∧ ∃ n, w' = w.drewN n := by
  obtain ⟨a, b, n, pr, d⟩ := o
  obtain ⟨x, y, m, qd⟩ := r
  simp only at hq0 hd0 o0 o1 o4 r0 r1 r3
  have e1 : IntKind.i64.wrap qd = qd := IntWalk.i64_in _ (by omega)
  have e2 : IntKind.i64.wrap d = d := IntWalk.i64_in _ (by omega)
  have e3 : IntKind.i64.wrap (qd - d) = qd - d := IntWalk.i64_in _ (by omega)
  have E : Aside0 (canB ⟨a, b, n, pr, d⟩ ⟨x, y, m, qd⟩ days = ((a == x && b == y) && (decide (d ≤ qd) && decide (qd - d ≤ days)))) := ⟨canB_eq _ _ _⟩
  cases h1 : (a == x) with
  | false =>
    have ER : Aside0 (canB ⟨a, b, n, pr, d⟩ ⟨x, y, m, qd⟩ days = false) := ⟨by rw [E.out, h1]; rfl⟩
    go_enter Try.func84, Try.ntmps84
    go_wp2_with fail
    go_quiet (fail)
    go_wp2
    go_ret
    exact ⟨by rw [ER.out]; rfl, _, rfl⟩
  | true =>
    cases h2 : (b == y) with
    | false =>
      have ER : Aside0 (canB ⟨a, b, n, pr, d⟩ ⟨x, y, m, qd⟩ days = false) := ⟨by rw [E.out, h1, h2]; rfl⟩
      go_enter Try.func84, Try.ntmps84
      go_wp2_with fail
      go_quiet (fail)
      go_wp2
      go_ret
      exact ⟨by rw [ER.out]; rfl, _, rfl⟩
    | true =>
      cases h3 : decide (d ≤ qd) with
      | false =>
        have ER : Aside0 (canB ⟨a, b, n, pr, d⟩ ⟨x, y, m, qd⟩ days = false) := ⟨by rw [E.out, h1, h2, h3]; rfl⟩
        go_enter Try.func84, Try.ntmps84
        go_wp2_with fail
        go_quiet (fail)
        go_wp2
        go_ret
        exact ⟨by rw [ER.out]; rfl, _, rfl⟩
      | true =>
        have ER : Aside0 (canB ⟨a, b, n, pr, d⟩ ⟨x, y, m, qd⟩ days = decide (qd - d ≤ days)) := ⟨by rw [E.out, h1, h2, h3]; rfl⟩
        go_enter Try.func84, Try.ntmps84
        go_wp2_with fail
        go_quiet (fail)
        go_wp2
        go_ret
        exact ⟨by rw [ER.out]; rfl, _, rfl⟩
theorem sDaysAt (days : Int) (w : World) : Calls Try.prog 83 #[.int .i64 days] w fun e w' => e = .returned (.bool (inB days 0 1000)) ∧ Below w.heap.size w w' :=
  (spec_l06Days.calls days _ w (sDays_is days)).mono fun e w' h => ⟨h.1, h.2.below⟩
theorem sAskedAt (A : Option Addr) (c : Nat) (l : List S75) (A1 : Option Addr) (c1 : Nat) (m : List S81) (fine : Bool) (w : World) (hr : Kd.C k75 w A l.length l) (hc : l.length ≤ c) (hl : ∀ x ∈ l, okOrder x = true) (hll : l.length ≤ 1048576)
    (hr1 : Kd.C k81 w A1 m.length m) (hc1 : m.length ≤ c1) (hm : ∀ x ∈ m, okReturn x = true) (hml : m.length ≤ 1048576) :
    Calls Try.prog 68 #[.slice A l.length c, .slice A1 m.length c1, .bool fine] w fun e w' => e = .returned (.int .i64 (askedB (ordersB l) (returnsB m) fine)) ∧ Below w.heap.size w w' :=
  spec_l06Asked.calls (l.length + m.length + 1) A c l A1 c1 m fine _ w hr hc hr1 hc1 (sAsked_is l m fine (List.all_eq_true.2 hl) (List.all_eq_true.2 hm) hll hml _ (by omega) (by omega))
/-- What spec has added up behind all matches; none where one cannot be. -/
def sumFrom (l : List S75) (m : List S81) (days : Int) (ms : List S102) : Nat → Nat → List Int → List Int → Option (List Int × List Int)
  | 0, _, sv, gv => some (sv, gv)
  | n + 1, i, sv, gv =>
    if ((ms.take i).any (sameM (ms.getD i z102).f0 (ms.getD i z102).f1) || badM l m days (ms.getD i z102)) = true then none
    else sumFrom l m days ms n (i + 1) (addAt sv (ms.getD i z102).f0.toNat (ms.getD i z102).f2) (addAt gv (ms.getD i z102).f1.toNat (ms.getD i z102).f2)
/-- Whether no sum is too great. -/
def fitR (m : List S81) (sv : List Int) (r : Nat) : Bool := decide (sv.getD r 0 ≤ (m.getD r z81).f2)
def fitO (l : List S75) (gv : List Int) (r : Nat) : Bool := decide (gv.getD r 0 ≤ (l.getD r z75).f2)
def sumsFit (l : List S75) (m : List S81) : Option (List Int × List Int) → Bool
  | none => false
  | some (sv, gv) => (List.range m.length).all (fitR m sv) && (List.range l.length).all (fitO l gv)
def sCheckRes (l : List S75) (m : List S81) (days : Int) (ms : List S102) : Bool × Int :=
  if checkC l m days ms = 0 then (sumsFit l m (sumFrom l m days ms ms.length 0 (List.replicate m.length 0) (List.replicate l.length 0)), 0) else (false, checkC l m days ms)
theorem askedB_days (l : List S75) (m : List S81) (days : Int) : askedB (ordersB l) (returnsB m) (inB days 0 1000) = daysC l m days := by
  unfold askedB daysC
  cases ordersB l <;> cases returnsB m <;> cases inB days 0 1000 <;> rfl
end Go.Proofs.Ytennlgkacijnnaa.Q
