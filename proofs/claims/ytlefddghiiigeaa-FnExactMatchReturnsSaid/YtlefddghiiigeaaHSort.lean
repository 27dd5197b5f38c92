/- slices.insertionSortCmpFunc at int64, where the numbers are those below n + 1 and the comparison tells cf: the row holds the kit's insertionSort. -/
import Derived.Test.YtlefddghiiigeaaOBase
import Derived.Sort.WalkA
import Derived.Sort.WalkC
import Derived.Sort.LotA
import Derived.Deep.LoopGhost
import Derived.BigRegion
import Derived.WalkKit
import Derived.Lib.Hide
set_option linter.unusedVariables false
set_option linter.unusedSimpArgs false
namespace Go.Proofs.Ytlefddghiiigeaa.Q
open Go.RowKit Go.Proofs.YtlefddghiiigeaaW.PrintWords Go.Proofs.YtlefddghiiigeaaW.PrintLast Go.Proofs.YtlefddghiiigeaaW.PrintMore Go.Sort
def encF {n : Nat} (x : Fin (n + 1)) : Value := .int .i64 ((x.val : Nat) : Int)
def ltF {n : Nat} (cf : Fin (n + 1) → Fin (n + 1) → Int) (x y : Fin (n + 1)) : Bool := decide (cf x y < 0)
/-- What is asked of a comparison: it tells cf of what the row may hold, and turns nothing. -/
def CmpF {n : Nat} (g : Nat) (cb : Array Value) (cf : Fin (n + 1) → Fin (n + 1) → Int) (blk size : Nat) (w : World) : Prop :=
  ∀ (m : Nat) (X : Array (Fin (n + 1))), X.size = size → 0 < size → ∀ x y : Fin (n + 1), Calls Try.prog g (#[encF x, encF y] ++ cb) ((putRow encF w blk 0 X).drewN m) fun e w' => e = .returned (.int .i64 (cf x y)) ∧ ∃ q, w' = ((putRow encF w blk 0 X).drewN m).drewN q
set_option maxHeartbeats 4000000 in
set_option maxRecDepth 1000000 in
theorem insSort_is {n : Nat} (cf : Fin (n + 1) → Fin (n + 1) → Int) (g : Nat) (cb : Array Value) (blk cap a b : Nat) (d : Array (Fin (n + 1))) (w : World)
    (eg : ∀ args w, (callFunc g args).run Try.prog w = .ok (.enter g args) w) (hcmp : CmpF g cb cf blk d.size w) (hH : Holds encF w blk 0 d) (hab : a ≤ b) (hb : b ≤ d.size) (hsz : d.size ≤ 1048576) :
    Calls Try.prog 59 #[.slice (some ⟨blk, 0, none⟩) d.size cap, .int .i64 a, .int .i64 b, .func (.func g) #[] cb] w fun e w' =>
      e = .returned (.tuple #[]) ∧ ∃ q, w' = (putRow encF w blk 0 (Sort.insertionSort (ltF cf) d a b)).drewN q := by
  have hcAt : ∀ (X : Array (Fin (n + 1))) (x y : Fin (n + 1)), X.size = d.size → 0 < d.size → ∀ m n', Calls Try.prog g (#[encF x, encF y] ++ cb) (((putRow encF w blk 0 X).drewN m).drewN n') fun e w' => e = .returned (.int .i64 (cf x y)) ∧ ∃ q, w' = (((putRow encF w blk 0 X).drewN m).drewN n').drewN q := fun X x y hX h0 m n' => by
    have := hcmp (m + n') X hX h0 x y
    rw [← World.drewN_drewN] at this
    exact this
  have HC := Aside0.mk hcAt
  have HST := Aside0.mk (putRow_self encF w blk 0 d hH).symm
  have HH := Aside0.mk hH
  clear hcAt hcmp hH
  go_enter Try.func59, Try.ntmps59
  go_wp2
  go_loopg [8] (b - a) (fun g1 vi wr => ∃ (i m : Nat) (dk : Array (Fin (n + 1))), vi = .int .i64 i ∧ a < i ∧ i ≤ b + 1 ∧ b + 1 - i ≤ g1 + 1 ∧ dk.size = d.size ∧ wr = (putRow encF w blk 0 dk).drewN m ∧ Aside0 (insOuter (ltF cf) a b i dk = insOuter (ltF cf) a b (a + 1) d))
  case atStart => exact ⟨a + 1, 0, d, by go_num, by omega, by omega, by omega, rfl, HST.out, ⟨rfl⟩⟩
  case round =>
    obtain ⟨i, m0, dk, rfl, hai, hib, hg1, hsk, rfl, HO⟩ := hrel
    by_cases hlt : i < b
    · have hltz : (i : Int) < (b : Int) := by omega
      go_wp2
      go_loopg [9] i (fun g2 vj wr2 => ∃ (j m : Nat) (dj : Array (Fin (n + 1))), vj = .int .i64 j ∧ a ≤ j ∧ j ≤ i ∧ j ≤ g2 ∧ dj.size = d.size ∧ wr2 = (putRow encF w blk 0 dj).drewN m ∧ Aside0 (insInner (ltF cf) a j dj = insInner (ltF cf) a i dk))
      case atStart => exact ⟨i, m0, dk, rfl, by omega, Nat.le_refl _, Nat.le_refl _, hsk, rfl, ⟨rfl⟩⟩
      case round =>
        obtain ⟨j, m, dj, rfl, haj, hji, hg2, hsj, rfl, HI⟩ := hrel
        have OUT : Aside0 ((j ≤ a ∨ ltF cf dj[j]! dj[j - 1]! = false) → insOuter (ltF cf) a b (i + 1) dj = insOuter (ltF cf) a b (a + 1) d) := ⟨fun hs => by
          rw [← HO.out, insOuter_go _ _ _ _ _ hlt, ← HI.out, insInner_stop _ _ _ _ hs]⟩
        by_cases hja : a < j
        · have hHj := holds_putRow encF w blk 0 d dj HH.out hsj
          obtain ⟨jp, rfl⟩ : ∃ jp, j = jp + 1 := ⟨j - 1, by omega⟩
          obtain ⟨xj, hxj⟩ : ∃ x, dj[jp + 1]! = x := ⟨_, rfl⟩
          obtain ⟨xp, hxp⟩ : ∃ x, dj[jp]! = x := ⟨_, rfl⟩
          obtain ⟨cj, fj⟩ := hHj (jp + 1) (by omega)
          obtain ⟨cp, fp⟩ := hHj jp (by omega)
          rw [hxj] at cj
          rw [hxp] at cp
          simp only [Nat.zero_add] at cj cp fj fp
          have hwp : IntKind.i64.wrap ((jp : Int) + 1 - 1) = (jp : Int) := by rw [IntKind.wrap_i64]; omega
          have hwp2 : IntKind.i64.wrap (jp : Int) = (jp : Int) := by rw [IntKind.wrap_i64]; omega
          have jz : (jp : Int) + 1 < (d.size : Int) := by omega
          have jz1 : (jp : Int) < (d.size : Int) := by omega
          have hjaz' : (a : Int) < (jp : Int) + 1 := by omega
          have p0 : (0 : Int) ≤ (jp : Int) + 1 := by omega
          have e0 : ((jp : Int) + 1).toNat = jp + 1 := by omega
          have hc := HC.out dj xj xp hsj (by omega) m
          have XJ := Aside0.mk hxj
          have XP := Aside0.mk hxp
          have cj' : ((putRow encF w blk 0 dj).drewN m).cell? ⟨blk, jp + 1, none⟩ = some (.int .i64 ((xj.val : Nat) : Int)) := cj
          have cp' : ((putRow encF w blk 0 dj).drewN m).cell? ⟨blk, jp, none⟩ = some (.int .i64 ((xp.val : Nat) : Int)) := cp
          have fj' : ((putRow encF w blk 0 dj).drewN m).frozen? ⟨blk, jp + 1, none⟩ = false := fj
          have fp' : ((putRow encF w blk 0 dj).drewN m).frozen? ⟨blk, jp, none⟩ = false := fp
          clear hHj cj cp fj fp hxj hxp
          obtain ⟨wq, hwq⟩ : ∃ wq, wq = (putRow encF w blk 0 dj).drewN m := ⟨_, rfl⟩
          rw [← hwq] at cj' cp' fj' fp' hc ⊢
          have HWQ := Aside0.mk hwq
          clear hwq
          by_cases hlv : cf xj xp < 0
          · go_wp2_with fail
            go_quiet ((go_at_fn g; refine Calls.quiet_of (hc _)))
            go_wp2_with fail
            have hw2 : wq.drewN nq = (putRow encF w blk 0 dj).drewN (m + nq) := by rw [HWQ.out, World.drewN_drewN]
            have cj2 : (wq.drewN nq).cell? ⟨blk, jp + 1, none⟩ = some (.int .i64 ((xj.val : Nat) : Int)) := cj'
            have cp2 : (wq.drewN nq).cell? ⟨blk, jp, none⟩ = some (.int .i64 ((xp.val : Nat) : Int)) := cp'
            have fj2 : (wq.drewN nq).frozen? ⟨blk, jp + 1, none⟩ = false := fj'
            have fp2 : (wq.drewN nq).frozen? ⟨blk, jp, none⟩ = false := fp'
            clear cj' cp' fj' fp' hc
            have HW2 := Aside0.mk hw2
            clear hw2
            obtain ⟨wq2, hwq2⟩ : ∃ wq2, wq2 = wq.drewN nq := ⟨_, rfl⟩
            rw [← hwq2] at cj2 cp2 fj2 fp2 HW2 ⊢
            clear hwq2
            obtain ⟨j1, hj1⟩ : ∃ j1, j1 = jp + 1 := ⟨_, rfl⟩
            rw [← hj1] at cj2 fj2 e0
            have J1 := Aside0.mk hj1
            clear hj1
            go_region
            all_goals go_wp2
            go_roundg jp
            case measure => omega
            case rel =>
              refine ⟨jp, m + nq + 1, swp dj (jp + 1) jp, by first | rfl | go_num | (congr 1; omega), by omega, by omega, Nat.le_refl _, by rw [size_swp]; exact hsj, ?_, ⟨?_⟩⟩
              · have := swap_worldC encF w blk 0 dj (m + nq) (jp + 1) jp (by omega) (by omega)
                rw [J1.out, HW2.out]
                rw [XJ.out, XP.out, Nat.zero_add, Nat.zero_add] at this
                exact this
              · have := insInner_go (ltF cf) a (jp + 1) dj hja (by simp only [Nat.add_sub_cancel]; rw [XJ.out, XP.out]; exact decide_eq_true hlv)
                simp only [Nat.add_sub_cancel] at this
                rw [← HI.out, this]
          · go_wp2_with fail
            go_quiet ((go_at_fn g; refine Calls.quiet_of (hc _)))
            go_wp2
            go_roundg (b - (i + 1))
            case measure => omega
            case rel => exact ⟨i + 1, _, dj, by go_num, by omega, by omega, by omega, hsj, by rw [HWQ.out, World.drewN_drewN], ⟨OUT.out (Or.inr (by simp only [Nat.add_sub_cancel]; rw [XJ.out, XP.out]; exact decide_eq_false (by omega)))⟩⟩
        · have hjaz : decide ((j : Int) > (a : Int)) = false := decide_eq_false (by omega)
          have hjaz2 : decide ((a : Int) < (j : Int)) = false := decide_eq_false (by omega)
          obtain ⟨wq, hwq⟩ : ∃ wq, wq = (putRow encF w blk 0 dj).drewN m := ⟨_, rfl⟩
          rw [← hwq]
          have HWQ := Aside0.mk hwq
          clear hwq
          go_wp2_with fail
          go_quiet (fail)
          go_wp2
          go_roundg (b - (i + 1))
          case measure => omega
          case rel => exact ⟨i + 1, _, dj, by go_num, by omega, by omega, by omega, hsj, by rw [HWQ.out, World.drewN_drewN], ⟨OUT.out (Or.inl (by omega))⟩⟩
    · have hltz : ¬ (i : Int) < (b : Int) := by omega
      go_wp2
      go_end0
      exact ⟨rfl, m0, by unfold Sort.insertionSort; rw [← HO.out, insOuter_stop _ _ _ _ _ hlt]⟩
set_option maxHeartbeats 2000000 in
set_option maxRecDepth 100000 in
/-- slices.SortStableFunc at fewer than 20 numbers. -/
theorem stable_small {n : Nat} (cf : Fin (n + 1) → Fin (n + 1) → Int) (g : Nat) (cb : Array Value) (blk cap : Nat) (d : Array (Fin (n + 1))) (w : World)
    (eg : ∀ args w, (callFunc g args).run Try.prog w = .ok (.enter g args) w) (hcmp : CmpF g cb cf blk d.size w) (hH : Holds encF w blk 0 d) (hsz : d.size < 20) :
    Calls Try.prog 43 #[.slice (some ⟨blk, 0, none⟩) d.size cap, .func (.func g) #[] cb] w fun e w' =>
      e = .returned (.tuple #[]) ∧ ∃ q, w' = (putRow encF w blk 0 (Sort.insertionSort (ltF cf) d 0 d.size)).drewN q := by
  have HC := Aside0.mk hcmp
  have HH := Aside0.mk hH
  clear hcmp hH
  have h20 : ¬ (20 : Int) ≤ (d.size : Int) := by omega
  have h21 : ¬ (20 : Int) < (d.size : Int) := by omega
  go_enter Try.func43, Try.ntmps43
  go_wp2_with fail
  have K : Calls Try.prog 53 #[.slice (some ⟨blk, 0, none⟩) d.size cap, .int .i64 d.size, .func (.func g) #[] cb] w fun e w' =>
      e = .returned (.tuple #[]) ∧ ∃ q, w' = (putRow encF w blk 0 (Sort.insertionSort (ltF cf) d 0 d.size)).drewN q := by
    go_enter Try.func53, Try.ntmps53
    go_wp2
    go_loopg [7, 8] 0 (fun gg v7 v8 wr => v7 = .int .i64 0 ∧ v8 = .int .i64 20 ∧ wr = w)
    case atStart => exact ⟨rfl, rfl, rfl⟩
    case round =>
      obtain ⟨rfl, rfl, rfl⟩ := hrel
      go_wp2_with fail
      refine (insSort_is cf g cb blk cap 0 d.size d wr eg HC.out HH.out (Nat.zero_le _) (Nat.le_refl _) (by omega)).mono ?_
      rintro e w2 ⟨rfl, q, rfl⟩
      go_wp2
      go_loopg [6] 0 (fun gg v6 wr2 => v6 = .int .i64 20 ∧ wr2 = (putRow encF wr blk 0 (Sort.insertionSort (ltF cf) d 0 d.size)).drewN q)
      case atStart => exact ⟨rfl, rfl⟩
      case round =>
        obtain ⟨rfl, rfl⟩ := hrel
        go_wp2
        go_end0
        exact ⟨rfl, q, rfl⟩
  refine K.mono ?_
  rintro e w2 ⟨rfl, q, rfl⟩
  go_wp2
  go_end0
  exact ⟨rfl, q, rfl⟩
def cmpI (x y : Int) : Int := if x < y then -1 else if y < x then 1 else 0
theorem compare16_is (x y : Int) (w : World) : Calls Try.prog 45 #[.int .i16 x, .int .i16 y] w fun e w' => e = .returned (.int .i64 (cmpI x y)) ∧ w' = w := by
  unfold cmpI
  by_cases h1 : x < y
  · rw [if_pos h1]
    go_enter Try.func45, Try.ntmps45
    go_wp2
    go_ret
    exact ⟨rfl, rfl⟩
  · rw [if_neg h1]
    by_cases h2 : y < x
    · rw [if_pos h2]
      go_enter Try.func45, Try.ntmps45
      go_wp2
      go_ret
      exact ⟨rfl, rfl⟩
    · rw [if_neg h2]
      go_enter Try.func45, Try.ntmps45
      go_wp2
      go_ret
      exact ⟨rfl, rfl⟩
theorem below_putRow {α : Type} [Inhabited α] (enc : α → Value) {B : Nat} {a w : World} (h : Below B a w) {b : Nat} (hb : B ≤ b) (off : Nat) (d : Array α) : Below B a (putRow enc w b off d) := by
  refine ⟨h.os, h.tape, h.output, ?_, fun k hk => ?_⟩
  · show _ ≤ (putRow enc w b off d).heap.size
    unfold putRow mapBlock
    simpa using h.size
  · have : (putRow enc w b off d).heap[k]? = w.heap[k]? := by
      unfold putRow mapBlock
      simp only [Array.getElem?_modify]
      rw [if_neg (by omega)]
    exact this.trans (h.block k hk)
end Go.Proofs.Ytlefddghiiigeaa.Q
