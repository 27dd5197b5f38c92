/- spec's l07Asked, for nets whose fields lie in their kinds. -/
import Derived.Test.YtkcfniilinokgaaHSValid
import Derived.Test.YtkcfniilinokgaaHCode
set_option linter.unusedVariables false
set_option linter.unusedSimpArgs false
namespace Go.Proofs.Ytkcfniilinokgaa.Q
open Go.RowKit Go.Proofs.YtkcfniilinokgaaW.PrintWords Go.Proofs.YtkcfniilinokgaaW.PrintLast Go.Proofs.YtkcfniilinokgaaW.PrintMore

/-- A net in memory, as spec's functions are given it. -/
structure NetAt (B : Nat) (s t : Int) (l : List S55) (w : World) : Prop where
  mk ::
  out : B < w.heap.size ∧ ∃ A c, l.length ≤ c ∧ w.cell? ⟨B, 0, none⟩ = some (.int .i8 s) ∧ w.cell? ⟨B, 1, none⟩ = some (.int .i16 t) ∧ w.cell? ⟨B, 2, none⟩ = some (.slice A l.length c) ∧ Kd.C k55 w A l.length l
theorem NetAt.below {B : Nat} {s t : Int} {l : List S55} {w w1 : World} (h : NetAt B s t l w) (hb : Below w.heap.size w w1) : NetAt B s t l w1 := by
  obtain ⟨h0, A, c, h1, h2, h3, h4, h5⟩ := h.out
  exact ⟨Nat.lt_of_lt_of_le h0 hb.size, A, c, h1, (hb.cell (p := ⟨B, 0, none⟩) h0).trans h2, (hb.cell (p := ⟨B, 1, none⟩) h0).trans h3, (hb.cell (p := ⟨B, 2, none⟩) h0).trans h4, Kd.C_below h5 hb⟩
theorem NetAt.new {s t : Int} {l : List S55} {w : World} {A : Option Addr} {c : Nat} (hr : Kd.C k55 w A l.length l) (hc : l.length ≤ c) (T : TypeId) :
    NetAt w.heap.size s t l (w.alloc (.cells #[.int .i8 s, .int .i16 t, .slice A l.length c] T)) :=
  ⟨by simp, A, c, hc, by go_simp, by go_simp, by go_simp, Kd.C_alloc hr _⟩
theorem NetAt.alloc {B : Nat} {s t : Int} {l : List S55} {w : World} (h : NetAt B s t l w) (o : Obj) : NetAt B s t l (w.alloc o) := h.below ((Below.refl _ _).alloc (Nat.le_refl _) o)
theorem own_lit0 (W : World) (base : Nat) (e : TypeId) (b : Nat) (hb : b = W.heap.size) (hbase : base ≤ W.heap.size) : (W.alloc (.cells #[] e)).ownsRow base e 1 (.slice (some ⟨b, 0, none⟩) 0 0) ([] : List Int).length (nums .i64 []) := by
  subst hb
  exact own_lit W base e .i64 [] hbase (by simp)
theorem l07Ok_at {B : Nat} {s t : Int} {l : List S55} {w : World} (h : NetAt B s t l w) (hok : okNet s t l = true) :
    Calls Try.prog 27 #[.pointer (some ⟨B, 0, none⟩)] w fun e w' => e = .returned (.bool (netB s t l)) ∧ Below w.heap.size w w' := by
  obtain ⟨h0, A, c, h1, h2, h3, h4, h5⟩ := h.out
  exact l07Ok_is B s t A c l w h0 h2 h3 h4 h5 h1 hok
theorem l07Station_at {B : Nat} {s t : Int} {l : List S55} {w : World} (h : NetAt B s t l w) (hok : okNet s t l = true) (x : Int) :
    Calls Try.prog 18 #[.pointer (some ⟨B, 0, none⟩), .int .i64 x] w fun e w' => e = .returned (.bool (inB x 0 (s - 1))) ∧ w = w' := by
  obtain ⟨h0, A, c, h1, h2, h3, h4, h5⟩ := h.out
  obtain ⟨⟨hs0, hs1, _, _⟩, _⟩ := okNet_iff.1 hok
  exact l07Station_is B s x _ w h2 hs0 hs1 rfl
theorem l07Asked_at {B : Nat} {s t : Int} {l : List S55} {w : World} (h : NetAt B s t l w) (hok : okNet s t l = true) (fine : Bool) :
    Calls Try.prog 19 #[.pointer (some ⟨B, 0, none⟩), .bool fine] w fun e w' => e = .returned (.int .i64 (codeB (netB s t l) fine)) ∧ Below w.heap.size w w' := by
  have HO := Aside0.mk hok
  clear hok
  go_enter Try.func19, Try.ntmps19
  go_wp2_with fail
  refine (l07Ok_at h HO.out).mono ?_
  rintro e w1 ⟨rfl, hb⟩
  have HB := Aside0.mk hb
  clear hb
  cases h1 : netB s t l with
  | false =>
    have H1 := Aside0.mk h1
    clear h1
    go_wp2
    go_ret
    exact ⟨by rw [H1.out]; rfl, HB.out⟩
  | true =>
    have H1 := Aside0.mk h1
    clear h1
    cases fine with
    | true =>
      go_wp2
      go_ret
      exact ⟨by rw [H1.out]; rfl, HB.out⟩
    | false =>
      go_wp2
      go_ret
      exact ⟨by rw [H1.out]; rfl, HB.out⟩
theorem netB_len {s t : Int} {l : List S55} (h1 : netB s t l = true) : l.length ≤ 20 := by
  simp only [netB, Bool.and_eq_true, decide_eq_true_eq] at h1
  exact h1.2.2.1
theorem l07Hour_is (n : Int) (w : World) : Calls Try.prog 17 #[.int .i64 n] w fun e w' => e = .returned (.bool (inB n 0 300)) ∧ w = w' := by
  go_enter Try.func17, Try.ntmps17
  go_wp2_with fail
  refine (l00In_is _ _ _ _ rfl _).mono ?_
  rintro e w' ⟨rfl, rfl⟩
  go_wp2
  go_ret
  exact ⟨rfl, rfl⟩
theorem l00Max_is (a b : Int) (w : World) : Calls Try.prog 28 #[.int .i64 a, .int .i64 b] w fun e w' => e = .returned (.int .i64 (max a b)) ∧ w = w' := by
  by_cases h : b < a
  · have hm : Aside0 (max a b = a) := ⟨by omega⟩
    go_enter Try.func28, Try.ntmps28
    go_wp2
    go_ret
    exact ⟨by rw [hm.out]; rfl, rfl⟩
  · have hm : Aside0 (max a b = b) := ⟨by omega⟩
    go_enter Try.func28, Try.ntmps28
    go_wp2
    go_ret
    exact ⟨by rw [hm.out]; rfl, rfl⟩
end Go.Proofs.Ytkcfniilinokgaa.Q
