/- Nets, over lists alone: which are in range, which are valid. -/
import Derived.Test.YtkcfniilinokgaaQ0
set_option linter.unusedVariables false
namespace Go.Proofs.Ytkcfniilinokgaa.Q
open Go.RowKit Go.Proofs.YtkcfniilinokgaaW.PrintWords
theorem bcell {W w1 : World} (hb : Below W.heap.size W w1) : (∀ b o, b < W.heap.size → w1.cell? ⟨b, o, none⟩ = W.cell? ⟨b, o, none⟩) ∧ (∀ b o, b < W.heap.size → w1.frozen? ⟨b, o, none⟩ = W.frozen? ⟨b, o, none⟩) :=
  ⟨fun b o h => hb.cell (p := ⟨b, o, none⟩) h, fun b o h => hb.frozen (p := ⟨b, o, none⟩) h⟩
/-- Behind a call: what lay there, and one block that had been made ahead of it. -/
theorem below_call {W w1 : World} {o : Obj} (hb : Below (W.alloc o).heap.size (W.alloc o) w1) : Below W.heap.size W w1 :=
  ((Below.refl _ _).alloc (Nat.le_refl _) o).trans (hb.mono (by simp))
def inB (n lo hi : Int) : Bool := decide (lo ≤ n ∧ n ≤ hi)
theorem inB_true {n lo hi : Int} : inB n lo hi = true ↔ lo ≤ n ∧ n ≤ hi := by simp [inB]
theorem inB_false {n lo hi : Int} : inB n lo hi = false ↔ ¬ (lo ≤ n ∧ n ≤ hi) := by simp only [inB, decide_eq_false_iff_not]
/-- A lane's fields lie in their kinds. -/
def okLane (x : S55) : Bool := decide (-128 ≤ x.f0 ∧ x.f0 ≤ 127 ∧ -128 ≤ x.f1 ∧ x.f1 ≤ 127 ∧ -32768 ≤ x.f2 ∧ x.f2 ≤ 32767 ∧ -32768 ≤ x.f3 ∧ x.f3 ≤ 32767)
def okNet (s t : Int) (l : List S55) : Bool := decide (-128 ≤ s ∧ s ≤ 127 ∧ -32768 ≤ t ∧ t ≤ 32767) && l.all okLane
/-- What makes a lane bad, in a net of s stations. -/
def laneBad (s : Int) (x : S55) : Bool := !inB x.f0 0 (s - 1) || (!inB x.f1 0 (s - 1) || (x.f0 == x.f1 || (!inB x.f2 1 x.f3 || decide (40 < x.f3))))
def netB (s t : Int) (l : List S55) : Bool := inB s 1 8 && (inB t 0 40 && (decide (l.length ≤ 20) && !l.any (laneBad s)))
theorem okNet_iff {s t : Int} {l : List S55} : okNet s t l = true ↔ (-128 ≤ s ∧ s ≤ 127 ∧ -32768 ≤ t ∧ t ≤ 32767) ∧ ∀ x ∈ l, okLane x = true := by
  simp [okNet]
theorem okLane_iff {x : S55} : okLane x = true ↔ -128 ≤ x.f0 ∧ x.f0 ≤ 127 ∧ -128 ≤ x.f1 ∧ x.f1 ≤ 127 ∧ -32768 ≤ x.f2 ∧ x.f2 ≤ 32767 ∧ -32768 ≤ x.f3 ∧ x.f3 ≤ 32767 := by
  simp [okLane]
end Go.Proofs.Ytkcfniilinokgaa.Q
