/- impl's isReturn, ValidOrders, ValidReturns, for orders and returns whose fields lie in their kinds. -/
import Derived.Test.YtennlgkacijnnaaOBase
import Derived.Test.YtennlgkacijnnaaIdxOrder
import Derived.Test.YtennlgkacijnnaaIdxReturn
set_option linter.unusedVariables false
set_option linter.unusedSimpArgs false
namespace Go.Proofs.Ytennlgkacijnnaa.Q
open Go.RowKit Go.Proofs.YtennlgkacijnnaaW.PrintWords Go.Proofs.YtennlgkacijnnaaW.PrintLast Go.Proofs.YtennlgkacijnnaaW.PrintMore
def okOrder (x : S75) : Bool := decide (-128 ≤ x.f0 ∧ x.f0 ≤ 127 ∧ -128 ≤ x.f1 ∧ x.f1 ≤ 127 ∧ -32768 ≤ x.f2 ∧ x.f2 ≤ 32767 ∧ -32768 ≤ x.f3 ∧ x.f3 ≤ 32767 ∧ -32768 ≤ x.f4 ∧ x.f4 ≤ 32767)
def okReturn (x : S81) : Bool := decide (-128 ≤ x.f0 ∧ x.f0 ≤ 127 ∧ -128 ≤ x.f1 ∧ x.f1 ≤ 127 ∧ -32768 ≤ x.f2 ∧ x.f2 ≤ 32767 ∧ -32768 ≤ x.f3 ∧ x.f3 ≤ 32767)
theorem okOrder_iff {x : S75} : okOrder x = true ↔ -128 ≤ x.f0 ∧ x.f0 ≤ 127 ∧ -128 ≤ x.f1 ∧ x.f1 ≤ 127 ∧ -32768 ≤ x.f2 ∧ x.f2 ≤ 32767 ∧ -32768 ≤ x.f3 ∧ x.f3 ≤ 32767 ∧ -32768 ≤ x.f4 ∧ x.f4 ≤ 32767 := by simp [okOrder]
theorem okReturn_iff {x : S81} : okReturn x = true ↔ -128 ≤ x.f0 ∧ x.f0 ≤ 127 ∧ -128 ≤ x.f1 ∧ x.f1 ≤ 127 ∧ -32768 ≤ x.f2 ∧ x.f2 ≤ 32767 ∧ -32768 ≤ x.f3 ∧ x.f3 ≤ 32767 := by simp [okReturn]
def retB (a b n d : Int) : Bool := inB a 0 8 && (inB b 0 11 && (inB n 1 100 && inB d 0 1000))
def orderBad (x : S75) : Bool := !retB x.f0 x.f1 x.f2 x.f4 || !inB x.f3 0 10000
def returnBad (x : S81) : Bool := !retB x.f0 x.f1 x.f2 x.f3
def ordersB (l : List S75) : Bool := decide ((l.length : Int) ≤ 40) && !l.any orderBad
def returnsB (l : List S81) : Bool := decide ((l.length : Int) ≤ 40) && !l.any returnBad
set_option maxHeartbeats 1000000 in
theorem isReturn_is (a b n d : Int) (r : Bool) (h : retB a b n d = r) (w : World) (a0 : -128 ≤ a) (a1 : a ≤ 127) (b0 : -128 ≤ b) (b1 : b ≤ 127) (n0 : -32768 ≤ n) (n1 : n ≤ 32767) (d0 : -32768 ≤ d) (d1 : d ≤ 32767) :
    Calls Try.prog 59 #[.agg #[.int .i8 a, .int .i8 b, .int .i16 n, .int .i16 d]] w fun e w' => e = .returned (.bool r) ∧ Below w.heap.size w w' := by
  subst h
  have E : Aside0 (retB a b n d = (inB a 0 8 && (inB b 0 11 && (inB n 1 100 && inB d 0 1000)))) := ⟨rfl⟩
  cases h1 : inB a 0 8 with
  | false =>
    go_enter Try.func59, Try.ntmps59
    go_wp2_with (first | (go_at_call 60; (with_reducible refine (within_is _ _ _ _ h1 _).mono ?_); rintro e w' ⟨rfl, rfl⟩) | go_in)
    go_ret
    exact ⟨by rw [E.out, h1]; rfl, (Below.refl _ _).alloc (Nat.le_refl _) _⟩
  | true =>
    cases h2 : inB b 0 11 with
    | false =>
      go_enter Try.func59, Try.ntmps59
      go_wp2_with (first | (go_at_call 60; (with_reducible refine (within_is _ _ _ _ h1 _).mono ?_); rintro e w' ⟨rfl, rfl⟩) | (go_at_call 60; (with_reducible refine (within_is _ _ _ _ h2 _).mono ?_); rintro e w' ⟨rfl, rfl⟩) | go_in)
      go_ret
      exact ⟨by rw [E.out, h1, h2]; rfl, (Below.refl _ _).alloc (Nat.le_refl _) _⟩
    | true =>
      cases h3 : inB n 1 100 with
      | false =>
        go_enter Try.func59, Try.ntmps59
        go_wp2_with (first | (go_at_call 60; (with_reducible refine (within_is _ _ _ _ h1 _).mono ?_); rintro e w' ⟨rfl, rfl⟩) | (go_at_call 60; (with_reducible refine (within_is _ _ _ _ h2 _).mono ?_); rintro e w' ⟨rfl, rfl⟩) | (go_at_call 60; (with_reducible refine (within_is _ _ _ _ h3 _).mono ?_); rintro e w' ⟨rfl, rfl⟩) | go_in)
        go_ret
        exact ⟨by rw [E.out, h1, h2, h3]; rfl, (Below.refl _ _).alloc (Nat.le_refl _) _⟩
      | true =>
        cases h4 : inB d 0 1000 with
        | false =>
          go_enter Try.func59, Try.ntmps59
          go_wp2_with (first | (go_at_call 60; (with_reducible refine (within_is _ _ _ _ h1 _).mono ?_); rintro e w' ⟨rfl, rfl⟩) | (go_at_call 60; (with_reducible refine (within_is _ _ _ _ h2 _).mono ?_); rintro e w' ⟨rfl, rfl⟩) | (go_at_call 60; (with_reducible refine (within_is _ _ _ _ h3 _).mono ?_); rintro e w' ⟨rfl, rfl⟩) | (go_at_call 60; (with_reducible refine (within_is _ _ _ _ h4 _).mono ?_); rintro e w' ⟨rfl, rfl⟩) | go_in)
          go_ret
          exact ⟨by rw [E.out, h1, h2, h3, h4]; rfl, (Below.refl _ _).alloc (Nat.le_refl _) _⟩
        | true =>
          go_enter Try.func59, Try.ntmps59
          go_wp2_with (first | (go_at_call 60; (with_reducible refine (within_is _ _ _ _ h1 _).mono ?_); rintro e w' ⟨rfl, rfl⟩) | (go_at_call 60; (with_reducible refine (within_is _ _ _ _ h2 _).mono ?_); rintro e w' ⟨rfl, rfl⟩) | (go_at_call 60; (with_reducible refine (within_is _ _ _ _ h3 _).mono ?_); rintro e w' ⟨rfl, rfl⟩) | (go_at_call 60; (with_reducible refine (within_is _ _ _ _ h4 _).mono ?_); rintro e w' ⟨rfl, rfl⟩) | go_in)
          go_ret
          exact ⟨by rw [E.out, h1, h2, h3, h4]; rfl, (Below.refl _ _).alloc (Nat.le_refl _) _⟩
theorem below_box1 {W w1 : World} {o : Obj} (hb : Below (W.alloc o).heap.size (W.alloc o) w1) : Below W.heap.size W w1 := below_call hb
theorem below_box2 {W w1 : World} {o o' : Obj} (hb : Below ((W.alloc o).alloc o').heap.size ((W.alloc o).alloc o') w1) : Below W.heap.size W w1 := below_call (below_call hb)
set_option maxHeartbeats 1000000 in
theorem order_pred (l : List S75) (w : World) (hl : ∀ x ∈ l, okOrder x = true) : PredOrder 58 #[] orderBad l w := by
  intro W x hx hb
  obtain ⟨a0, a1, b0, b1, n0, n1, p0, p1, d0, d1⟩ := okOrder_iff.1 (hl x hx)
  clear hl hx hb
  obtain ⟨a, b, n, p, d⟩ := x
  simp only at a0 a1 b0 b1 n0 n1 p0 p1 d0 d1 ⊢
  simp only [List.append_toArray, List.cons_append, List.nil_append, List.append_nil]
  have E : Aside0 (orderBad ⟨a, b, n, p, d⟩ = (!retB a b n d || !inB p 0 10000)) := ⟨rfl⟩
  go_enter Try.func58, Try.ntmps58
  go_wp2_with fail
  cases h1 : retB a b n d with
  | false =>
    refine (isReturn_is a b n d false h1 _ a0 a1 b0 b1 n0 n1 d0 d1).mono ?_
    rintro e w1 ⟨rfl, hb⟩
    have H1 := Aside0.mk h1
    clear h1
    go_wp2
    go_ret
    exact ⟨by rw [E.out, H1.out]; rfl, below_box1 hb⟩
  | true =>
    refine (isReturn_is a b n d true h1 _ a0 a1 b0 b1 n0 n1 d0 d1).mono ?_
    rintro e w1 ⟨rfl, hb⟩
    have H1 := Aside0.mk h1
    have HB := Aside0.mk (below_box1 hb)
    obtain ⟨hc, hf⟩ := bcell hb
    clear h1
    go_wp2_with fail
    cases h2 : inB p 0 10000 with
    | false =>
      refine (within_is _ _ _ _ h2 _).mono ?_
      rintro e w' ⟨rfl, rfl⟩
      have H2 := Aside0.mk h2
      clear h2
      go_wp2
      go_ret
      exact ⟨by rw [E.out, H1.out, H2.out]; rfl, HB.out⟩
    | true =>
      refine (within_is _ _ _ _ h2 _).mono ?_
      rintro e w' ⟨rfl, rfl⟩
      have H2 := Aside0.mk h2
      clear h2
      go_wp2
      go_ret
      exact ⟨by rw [E.out, H1.out, H2.out]; rfl, HB.out⟩
set_option maxHeartbeats 1000000 in
theorem return_pred (l : List S81) (w : World) (hl : ∀ x ∈ l, okReturn x = true) : PredReturn 100 #[] returnBad l w := by
  intro W x hx hb
  obtain ⟨a0, a1, b0, b1, n0, n1, d0, d1⟩ := okReturn_iff.1 (hl x hx)
  clear hl hx hb
  obtain ⟨a, b, n, d⟩ := x
  simp only at a0 a1 b0 b1 n0 n1 d0 d1 ⊢
  simp only [List.append_toArray, List.cons_append, List.nil_append, List.append_nil]
  have E : Aside0 (returnBad ⟨a, b, n, d⟩ = !retB a b n d) := ⟨rfl⟩
  go_enter Try.func100, Try.ntmps100
  go_wp2_with fail
  refine (isReturn_is a b n d _ rfl _ a0 a1 b0 b1 n0 n1 d0 d1).mono ?_
  rintro e w1 ⟨rfl, hb⟩
  generalize retB a b n d = r at *
  go_wp2
  go_ret
  exact ⟨by rw [E.out]; rfl, below_box1 hb⟩
theorem ValidOrders_any (A : Option Addr) (c : Nat) (l : List S75) (w : World) (hr : Kd.C k75 w A l.length l) (hc : l.length ≤ c) (hl : ∀ x ∈ l, okOrder x = true) :
    Calls Try.prog 16 #[.slice A l.length c] w fun e w' => e = .returned (.bool (ordersB l)) ∧ Below w.heap.size w w' := by
  have HR := Aside0.mk hr
  have HL := Aside0.mk hl
  have E : Aside0 (ordersB l = (decide ((l.length : Int) ≤ 40) && !l.any orderBad)) := ⟨rfl⟩
  clear hr hl
  cases h1 : decide ((l.length : Int) ≤ 40) with
  | false =>
    go_enter Try.func16, Try.ntmps16
    go_wp2
    go_ret
    exact ⟨by rw [E.out, h1]; rfl, Below.refl _ _⟩
  | true =>
    have eg := enters_of Try.func58 (by kernel_rfl) rfl
    go_enter Try.func16, Try.ntmps16
    go_wp2_with fail
    refine (containsFunc_Order 58 _ eg orderBad A c l _ HR.out hc (order_pred l _ HL.out)).mono ?_
    rintro e w1 ⟨rfl, hb⟩
    have HB := Aside0.mk hb
    clear hb
    generalize hy : l.any orderBad = y at *
    go_wp2
    go_ret
    exact ⟨by rw [E.out, h1]; rfl, HB.out⟩
theorem ValidReturns_any (A : Option Addr) (c : Nat) (l : List S81) (w : World) (hr : Kd.C k81 w A l.length l) (hc : l.length ≤ c) (hl : ∀ x ∈ l, okReturn x = true) :
    Calls Try.prog 72 #[.slice A l.length c] w fun e w' => e = .returned (.bool (returnsB l)) ∧ Below w.heap.size w w' := by
  have HR := Aside0.mk hr
  have HL := Aside0.mk hl
  have E : Aside0 (returnsB l = (decide ((l.length : Int) ≤ 40) && !l.any returnBad)) := ⟨rfl⟩
  clear hr hl
  cases h1 : decide ((l.length : Int) ≤ 40) with
  | false =>
    go_enter Try.func72, Try.ntmps72
    go_wp2
    go_ret
    exact ⟨by rw [E.out, h1]; rfl, Below.refl _ _⟩
  | true =>
    have eg := enters_of Try.func100 (by kernel_rfl) rfl
    go_enter Try.func72, Try.ntmps72
    go_wp2_with fail
    refine (containsFunc_Return 100 _ eg returnBad A c l _ HR.out hc (return_pred l _ HL.out)).mono ?_
    rintro e w1 ⟨rfl, hb⟩
    have HB := Aside0.mk hb
    clear hb
    generalize hy : l.any returnBad = y at *
    go_wp2
    go_ret
    exact ⟨by rw [E.out, h1]; rfl, HB.out⟩
def impl_ValidOrders.f (l0 : List (S75)) : Option (Bool) := if l0.all okOrder = true then some (ordersB l0) else none
theorem impl_ValidOrders.calls (A0 : Option Addr) (c0 : Nat) (l0 : List (S75)) (r : Bool) (w : World) (hr0 : Kd.C k75 w A0 l0.length l0) (hc0 : l0.length ≤ c0) (h : impl_ValidOrders.f l0 = some r) :
    Calls Try.prog 16 #[.slice A0 l0.length c0] w fun e w' => e = .returned (.bool r) ∧ Below w.heap.size w w' := by
  unfold impl_ValidOrders.f at h
  split at h
  · rename_i hh
    injection h with h
    subst h
    exact ValidOrders_any A0 c0 l0 w hr0 hc0 (List.all_eq_true.1 hh)
  · cases h
def impl_ValidReturns.f (l0 : List (S81)) : Option (Bool) := if l0.all okReturn = true then some (returnsB l0) else none
theorem impl_ValidReturns.calls (A0 : Option Addr) (c0 : Nat) (l0 : List (S81)) (r : Bool) (w : World) (hr0 : Kd.C k81 w A0 l0.length l0) (hc0 : l0.length ≤ c0) (h : impl_ValidReturns.f l0 = some r) :
    Calls Try.prog 72 #[.slice A0 l0.length c0] w fun e w' => e = .returned (.bool r) ∧ Below w.heap.size w w' := by
  unfold impl_ValidReturns.f at h
  split at h
  · rename_i hh
    injection h with h
    subst h
    exact ValidReturns_any A0 c0 l0 w hr0 hc0 (List.all_eq_true.1 hh)
  · cases h
end Go.Proofs.Ytennlgkacijnnaa.Q
