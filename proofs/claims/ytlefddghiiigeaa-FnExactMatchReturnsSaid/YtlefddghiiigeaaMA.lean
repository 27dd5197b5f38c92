/- slices.IndexFunc and slices.ContainsFunc at i.Order: whatever the predicate, if it leaves what lay there: the first index at which it holds; whether there is one. For every slice that can be read. -/
import Derived.Test.YtlefddghiiigeaaQ0
import Derived.Shelf.Abstract
import Derived.Test.YtlefddghiiigeaaOBase
set_option linter.unusedVariables false
set_option linter.unusedSimpArgs false
namespace Go.Proofs.Ytlefddghiiigeaa.Q
open Go.RowKit Go.Proofs.YtlefddghiiigeaaW.PrintWords Go.Proofs.YtlefddghiiigeaaW.PrintLast Go.Proofs.YtlefddghiiigeaaW.PrintMore

/-- What is asked of a predicate on i.Order. -/
def PredOrder (g : Nat) (lb : Array Value) (p : S55 → Bool) (l : List S55) (w : World) : Prop :=
  ∀ (W : World) (x : S55), x ∈ l → Below w.heap.size w W → Calls Try.prog g (#[.agg #[.int .i8 x.f0, .int .i8 x.f1, .int .i16 x.f2, .int .i16 x.f3, .int .i16 x.f4]] ++ lb) W fun e w' => e = .returned (.bool (p x)) ∧ Below W.heap.size W w'
def idxOrder (p : S55 → Bool) (l : List S55) : Int := match l.findIdx? p with | some i => (i : Int) | none => -1
theorem idxOrder_hit (p : S55 → Bool) (l : List S55) (k : Nat) (h : k < l.length) (hp : p (l.getD k z55) = true) (ha : ∀ j, j < k → p (l.getD j z55) = false) : idxOrder p l = k := by
  have e : l.findIdx? p = some k := by
    rw [List.findIdx?_eq_some_iff_getElem]
    refine ⟨h, ?_, fun j hj => ?_⟩
    · rw [List.getD_eq_getElem?_getD, List.getElem?_eq_getElem h] at hp
      exact hp
    · have := ha j hj
      rw [List.getD_eq_getElem?_getD, List.getElem?_eq_getElem (by omega)] at this
      simpa using this
  unfold idxOrder
  rw [e]
theorem idxOrder_miss (p : S55 → Bool) (l : List S55) (ha : ∀ j, j < l.length → p (l.getD j z55) = false) : idxOrder p l = -1 := by
  have e : l.findIdx? p = none := by
    rw [List.findIdx?_eq_none_iff]
    intro x hx
    obtain ⟨j, hj, rfl⟩ := List.getElem_of_mem hx
    have := ha j hj
    rw [List.getD_eq_getElem?_getD, List.getElem?_eq_getElem hj] at this
    exact this
  unfold idxOrder
  rw [e]
theorem idxOrder_any (p : S55 → Bool) (l : List S55) : decide (0 ≤ idxOrder p l) = l.any p := by
  unfold idxOrder
  cases h : l.findIdx? p with
  | none =>
    rw [List.findIdx?_eq_none_iff] at h
    symm
    simp only [show ¬ (0 : Int) ≤ -1 by omega, decide_false]
    rw [List.any_eq_false]
    intro x hx
    simp [h x hx]
  | some i =>
    rw [List.findIdx?_eq_some_iff_getElem] at h
    obtain ⟨h1, h2, _⟩ := h
    symm
    simp only [show (0 : Int) ≤ (i : Int) by omega, decide_true]
    rw [List.any_eq_true]
    exact ⟨_, List.getElem_mem h1, h2⟩
set_option maxHeartbeats 1000000 in
theorem indexFunc_Order (g : Nat) (lb : Array Value) (eg : ∀ args w, (callFunc g args).run Try.prog w = .ok (.enter g args) w) (p : S55 → Bool) (A : Option Addr) (c : Nat) (l : List S55) (w : World) (hr : Kd.C k55 w A l.length l) (hc : l.length ≤ c) (hp : PredOrder g lb p l w) :
    Calls Try.prog 55 #[.slice A l.length c, .func (.func g) #[] lb] w fun e w' => e = .returned (.int .i64 (idxOrder p l)) ∧ Below w.heap.size w w' := by
  have HR := Aside0.mk hr
  have HP := Aside0.mk hp
  have hbig : l.length ≤ 9223372036854775807 := hr.2.1
  clear hr hp
  go_enter Try.func55, Try.ntmps55
  go_wp2
  go_loopg [5, 8] l.length (fun gg _ s8 wr => ∃ kk : Nat, kk ≤ l.length ∧ l.length - kk ≤ gg ∧ s8 = .int .i64 kk ∧ Aside0 (Below w.heap.size w wr) ∧ Aside0 (∀ j, j < kk → p (l.getD j z55) = false))
  case atStart => exact ⟨0, Nat.zero_le _, by omega, rfl, ⟨Below.refl _ w⟩, ⟨fun j hj => absurd hj (Nat.not_lt_zero _)⟩⟩
  case round =>
    obtain ⟨kk, hkk, hg, rfl, BW, HA⟩ := hrel
    by_cases hlt : kk < l.length
    · have hltz : (kk : Int) < (l.length : Int) := by omega
      obtain ⟨ad, e, hx0, hx1, hx2, hx3, hx4⟩ := at_T55 (Kd.C_below HR.out BW.out) (kk : Int) (by omega) hltz
      have hcall := HP.out wr (l.getD kk z55) (by rw [List.getD_eq_getElem?_getD, List.getElem?_eq_getElem hlt]; exact List.getElem_mem hlt) BW.out
      simp only [rd_T55, Int.toNat_natCast] at hx0 hx1 hx2 hx3 hx4
      subst e
      generalize hy : l.getD kk z55 = y at hx0 hx1 hx2 hx3 hx4 hcall
      have B := Aside0.mk hy
      clear hy
      cases hq : p y with
      | true =>
        rw [hq] at hcall
        go_wp2_with (go_at_fn g; refine hcall.mono ?_; rintro e w' ⟨rfl, hb'⟩)
        go_ret
        refine ⟨?_, BW.out.trans (hb'.mono BW.out.size)⟩
        rw [idxOrder_hit p l kk hlt (by rw [B.out]; exact hq) HA.out]
        rfl
      | false =>
        rw [hq] at hcall
        go_wp2_with (go_at_fn g; refine hcall.mono ?_; rintro e w' ⟨rfl, hb'⟩)
        go_roundg (l.length - (kk + 1))
        case measure => omega
        case rel =>
          refine ⟨kk + 1, by omega, by omega, by go_num, ⟨BW.out.trans (hb'.mono BW.out.size)⟩, ⟨fun j hj => ?_⟩⟩
          by_cases e : j = kk
          · subst e
            rw [B.out]; exact hq
          · exact HA.out j (by omega)
    · have hltz : ¬ (kk : Int) < (l.length : Int) := by omega
      have hk : kk = l.length := by omega
      subst hk
      go_wp2
      go_ret
      exact ⟨by rw [idxOrder_miss p l HA.out]; rfl, BW.out⟩
theorem containsFunc_Order (g : Nat) (lb : Array Value) (eg : ∀ args w, (callFunc g args).run Try.prog w = .ok (.enter g args) w) (p : S55 → Bool) (A : Option Addr) (c : Nat) (l : List S55) (w : World) (hr : Kd.C k55 w A l.length l) (hc : l.length ≤ c) (hp : PredOrder g lb p l w) :
    Calls Try.prog 48 #[.slice A l.length c, .func (.func g) #[] lb] w fun e w' => e = .returned (.bool (l.any p)) ∧ Below w.heap.size w w' := by
  rw [← idxOrder_any]
  have HP := Aside0.mk hp
  have HR := Aside0.mk hr
  clear hp hr
  go_enter Try.func48, Try.ntmps48
  go_wp2_with (go_at_call 55; refine (indexFunc_Order g lb eg p A c l _ HR.out hc HP.out).mono ?_; rintro e w' ⟨rfl, hb'⟩)
  go_ret
  exact ⟨rfl, hb'⟩
end Go.Proofs.Ytlefddghiiigeaa.Q
/- slices.IndexFunc and slices.ContainsFunc at i.Return: whatever the predicate, if it leaves what lay there: the first index at which it holds; whether there is one. For every slice that can be read. -/
set_option linter.unusedVariables false
set_option linter.unusedSimpArgs false
namespace Go.Proofs.Ytlefddghiiigeaa.Q
open Go.RowKit Go.Proofs.YtlefddghiiigeaaW.PrintWords Go.Proofs.YtlefddghiiigeaaW.PrintLast Go.Proofs.YtlefddghiiigeaaW.PrintMore

/-- What is asked of a predicate on i.Return. -/
def PredReturn (g : Nat) (lb : Array Value) (p : S50 → Bool) (l : List S50) (w : World) : Prop :=
  ∀ (W : World) (x : S50), x ∈ l → Below w.heap.size w W → Calls Try.prog g (#[.agg #[.int .i8 x.f0, .int .i8 x.f1, .int .i16 x.f2, .int .i16 x.f3]] ++ lb) W fun e w' => e = .returned (.bool (p x)) ∧ Below W.heap.size W w'
def idxReturn (p : S50 → Bool) (l : List S50) : Int := match l.findIdx? p with | some i => (i : Int) | none => -1
theorem idxReturn_hit (p : S50 → Bool) (l : List S50) (k : Nat) (h : k < l.length) (hp : p (l.getD k z50) = true) (ha : ∀ j, j < k → p (l.getD j z50) = false) : idxReturn p l = k := by
  have e : l.findIdx? p = some k := by
    rw [List.findIdx?_eq_some_iff_getElem]
    refine ⟨h, ?_, fun j hj => ?_⟩
    · rw [List.getD_eq_getElem?_getD, List.getElem?_eq_getElem h] at hp
      exact hp
    · have := ha j hj
      rw [List.getD_eq_getElem?_getD, List.getElem?_eq_getElem (by omega)] at this
      simpa using this
  unfold idxReturn
  rw [e]
theorem idxReturn_miss (p : S50 → Bool) (l : List S50) (ha : ∀ j, j < l.length → p (l.getD j z50) = false) : idxReturn p l = -1 := by
  have e : l.findIdx? p = none := by
    rw [List.findIdx?_eq_none_iff]
    intro x hx
    obtain ⟨j, hj, rfl⟩ := List.getElem_of_mem hx
    have := ha j hj
    rw [List.getD_eq_getElem?_getD, List.getElem?_eq_getElem hj] at this
    exact this
  unfold idxReturn
  rw [e]
theorem idxReturn_any (p : S50 → Bool) (l : List S50) : decide (0 ≤ idxReturn p l) = l.any p := by
  unfold idxReturn
  cases h : l.findIdx? p with
  | none =>
    rw [List.findIdx?_eq_none_iff] at h
    symm
    simp only [show ¬ (0 : Int) ≤ -1 by omega, decide_false]
    rw [List.any_eq_false]
    intro x hx
    simp [h x hx]
  | some i =>
    rw [List.findIdx?_eq_some_iff_getElem] at h
    obtain ⟨h1, h2, _⟩ := h
    symm
    simp only [show (0 : Int) ≤ (i : Int) by omega, decide_true]
    rw [List.any_eq_true]
    exact ⟨_, List.getElem_mem h1, h2⟩
set_option maxHeartbeats 1000000 in
theorem indexFunc_Return (g : Nat) (lb : Array Value) (eg : ∀ args w, (callFunc g args).run Try.prog w = .ok (.enter g args) w) (p : S50 → Bool) (A : Option Addr) (c : Nat) (l : List S50) (w : World) (hr : Kd.C k50 w A l.length l) (hc : l.length ≤ c) (hp : PredReturn g lb p l w) :
    Calls Try.prog 58 #[.slice A l.length c, .func (.func g) #[] lb] w fun e w' => e = .returned (.int .i64 (idxReturn p l)) ∧ Below w.heap.size w w' := by
  have HR := Aside0.mk hr
  have HP := Aside0.mk hp
  have hbig : l.length ≤ 9223372036854775807 := hr.2.1
  clear hr hp
  go_enter Try.func58, Try.ntmps58
  go_wp2
  go_loopg [5, 8] l.length (fun gg _ s8 wr => ∃ kk : Nat, kk ≤ l.length ∧ l.length - kk ≤ gg ∧ s8 = .int .i64 kk ∧ Aside0 (Below w.heap.size w wr) ∧ Aside0 (∀ j, j < kk → p (l.getD j z50) = false))
  case atStart => exact ⟨0, Nat.zero_le _, by omega, rfl, ⟨Below.refl _ w⟩, ⟨fun j hj => absurd hj (Nat.not_lt_zero _)⟩⟩
  case round =>
    obtain ⟨kk, hkk, hg, rfl, BW, HA⟩ := hrel
    by_cases hlt : kk < l.length
    · have hltz : (kk : Int) < (l.length : Int) := by omega
      obtain ⟨ad, e, hx0, hx1, hx2, hx3⟩ := at_T50 (Kd.C_below HR.out BW.out) (kk : Int) (by omega) hltz
      have hcall := HP.out wr (l.getD kk z50) (by rw [List.getD_eq_getElem?_getD, List.getElem?_eq_getElem hlt]; exact List.getElem_mem hlt) BW.out
      simp only [rd_T50, Int.toNat_natCast] at hx0 hx1 hx2 hx3
      subst e
      generalize hy : l.getD kk z50 = y at hx0 hx1 hx2 hx3 hcall
      have B := Aside0.mk hy
      clear hy
      cases hq : p y with
      | true =>
        rw [hq] at hcall
        go_wp2_with (go_at_fn g; refine hcall.mono ?_; rintro e w' ⟨rfl, hb'⟩)
        go_ret
        refine ⟨?_, BW.out.trans (hb'.mono BW.out.size)⟩
        rw [idxReturn_hit p l kk hlt (by rw [B.out]; exact hq) HA.out]
        rfl
      | false =>
        rw [hq] at hcall
        go_wp2_with (go_at_fn g; refine hcall.mono ?_; rintro e w' ⟨rfl, hb'⟩)
        go_roundg (l.length - (kk + 1))
        case measure => omega
        case rel =>
          refine ⟨kk + 1, by omega, by omega, by go_num, ⟨BW.out.trans (hb'.mono BW.out.size)⟩, ⟨fun j hj => ?_⟩⟩
          by_cases e : j = kk
          · subst e
            rw [B.out]; exact hq
          · exact HA.out j (by omega)
    · have hltz : ¬ (kk : Int) < (l.length : Int) := by omega
      have hk : kk = l.length := by omega
      subst hk
      go_wp2
      go_ret
      exact ⟨by rw [idxReturn_miss p l HA.out]; rfl, BW.out⟩
theorem containsFunc_Return (g : Nat) (lb : Array Value) (eg : ∀ args w, (callFunc g args).run Try.prog w = .ok (.enter g args) w) (p : S50 → Bool) (A : Option Addr) (c : Nat) (l : List S50) (w : World) (hr : Kd.C k50 w A l.length l) (hc : l.length ≤ c) (hp : PredReturn g lb p l w) :
    Calls Try.prog 51 #[.slice A l.length c, .func (.func g) #[] lb] w fun e w' => e = .returned (.bool (l.any p)) ∧ Below w.heap.size w w' := by
  rw [← idxReturn_any]
  have HP := Aside0.mk hp
  have HR := Aside0.mk hr
  clear hp hr
  go_enter Try.func51, Try.ntmps51
  go_wp2_with (go_at_call 58; refine (indexFunc_Return g lb eg p A c l _ HR.out hc HP.out).mono ?_; rintro e w' ⟨rfl, hb'⟩)
  go_ret
  exact ⟨rfl, hb'⟩
end Go.Proofs.Ytlefddghiiigeaa.Q
/- impl's isReturn, ValidOrders, ValidReturns, for orders and returns whose fields lie in their kinds. -/
set_option linter.unusedVariables false
set_option linter.unusedSimpArgs false
namespace Go.Proofs.Ytlefddghiiigeaa.Q
open Go.RowKit Go.Proofs.YtlefddghiiigeaaW.PrintWords Go.Proofs.YtlefddghiiigeaaW.PrintLast Go.Proofs.YtlefddghiiigeaaW.PrintMore
def okOrder (x : S55) : Bool := decide (-128 ≤ x.f0 ∧ x.f0 ≤ 127 ∧ -128 ≤ x.f1 ∧ x.f1 ≤ 127 ∧ -32768 ≤ x.f2 ∧ x.f2 ≤ 32767 ∧ -32768 ≤ x.f3 ∧ x.f3 ≤ 32767 ∧ -32768 ≤ x.f4 ∧ x.f4 ≤ 32767)
def okReturn (x : S50) : Bool := decide (-128 ≤ x.f0 ∧ x.f0 ≤ 127 ∧ -128 ≤ x.f1 ∧ x.f1 ≤ 127 ∧ -32768 ≤ x.f2 ∧ x.f2 ≤ 32767 ∧ -32768 ≤ x.f3 ∧ x.f3 ≤ 32767)
theorem okOrder_iff {x : S55} : okOrder x = true ↔ -128 ≤ x.f0 ∧ x.f0 ≤ 127 ∧ -128 ≤ x.f1 ∧ x.f1 ≤ 127 ∧ -32768 ≤ x.f2 ∧ x.f2 ≤ 32767 ∧ -32768 ≤ x.f3 ∧ x.f3 ≤ 32767 ∧ -32768 ≤ x.f4 ∧ x.f4 ≤ 32767 := by simp [okOrder]
theorem okReturn_iff {x : S50} : okReturn x = true ↔ -128 ≤ x.f0 ∧ x.f0 ≤ 127 ∧ -128 ≤ x.f1 ∧ x.f1 ≤ 127 ∧ -32768 ≤ x.f2 ∧ x.f2 ≤ 32767 ∧ -32768 ≤ x.f3 ∧ x.f3 ≤ 32767 := by simp [okReturn]
def retB (a b n d : Int) : Bool := inB a 0 8 && (inB b 0 11 && (inB n 1 100 && inB d 0 1000))
def orderBad (x : S55) : Bool := !retB x.f0 x.f1 x.f2 x.f4 || !inB x.f3 0 10000
def returnBad (x : S50) : Bool := !retB x.f0 x.f1 x.f2 x.f3
def ordersB (l : List S55) : Bool := decide ((l.length : Int) ≤ 40) && !l.any orderBad
def returnsB (l : List S50) : Bool := decide ((l.length : Int) ≤ 40) && !l.any returnBad
set_option maxHeartbeats 1000000 in
theorem isReturn_is (a b n d : Int) (r : Bool) (h : retB a b n d = r) (w : World) (a0 : -128 ≤ a) (a1 : a ≤ 127) (b0 : -128 ≤ b) (b1 : b ≤ 127) (n0 : -32768 ≤ n) (n1 : n ≤ 32767) (d0 : -32768 ≤ d) (d1 : d ≤ 32767) :
    Calls Try.prog 50 #[.agg #[.int .i8 a, .int .i8 b, .int .i16 n, .int .i16 d]] w fun e w' => e = .returned (.bool r) ∧ Below w.heap.size w w' := by
  subst h
  have E : Aside0 (retB a b n d = (inB a 0 8 && (inB b 0 11 && (inB n 1 100 && inB d 0 1000)))) := ⟨rfl⟩
  cases h1 : inB a 0 8 with
  | false =>
    go_enter Try.func50, Try.ntmps50
    go_wp2_with (first | (go_at_call 41; (with_reducible refine (within_is _ _ _ _ h1 _).mono ?_); rintro e w' ⟨rfl, rfl⟩) | go_in)
    go_ret
    exact ⟨by rw [E.out, h1]; rfl, (Below.refl _ _).alloc (Nat.le_refl _) _⟩
  | true =>
    cases h2 : inB b 0 11 with
    | false =>
      go_enter Try.func50, Try.ntmps50
      go_wp2_with (first | (go_at_call 41; (with_reducible refine (within_is _ _ _ _ h1 _).mono ?_); rintro e w' ⟨rfl, rfl⟩) | (go_at_call 41; (with_reducible refine (within_is _ _ _ _ h2 _).mono ?_); rintro e w' ⟨rfl, rfl⟩) | go_in)
      go_ret
      exact ⟨by rw [E.out, h1, h2]; rfl, (Below.refl _ _).alloc (Nat.le_refl _) _⟩
    | true =>
      cases h3 : inB n 1 100 with
      | false =>
        go_enter Try.func50, Try.ntmps50
        go_wp2_with (first | (go_at_call 41; (with_reducible refine (within_is _ _ _ _ h1 _).mono ?_); rintro e w' ⟨rfl, rfl⟩) | (go_at_call 41; (with_reducible refine (within_is _ _ _ _ h2 _).mono ?_); rintro e w' ⟨rfl, rfl⟩) | (go_at_call 41; (with_reducible refine (within_is _ _ _ _ h3 _).mono ?_); rintro e w' ⟨rfl, rfl⟩) | go_in)
        go_ret
        exact ⟨by rw [E.out, h1, h2, h3]; rfl, (Below.refl _ _).alloc (Nat.le_refl _) _⟩
      | true =>
        cases h4 : inB d 0 1000 with
        | false =>
          go_enter Try.func50, Try.ntmps50
          go_wp2_with (first | (go_at_call 41; (with_reducible refine (within_is _ _ _ _ h1 _).mono ?_); rintro e w' ⟨rfl, rfl⟩) | (go_at_call 41; (with_reducible refine (within_is _ _ _ _ h2 _).mono ?_); rintro e w' ⟨rfl, rfl⟩) | (go_at_call 41; (with_reducible refine (within_is _ _ _ _ h3 _).mono ?_); rintro e w' ⟨rfl, rfl⟩) | (go_at_call 41; (with_reducible refine (within_is _ _ _ _ h4 _).mono ?_); rintro e w' ⟨rfl, rfl⟩) | go_in)
          go_ret
          exact ⟨by rw [E.out, h1, h2, h3, h4]; rfl, (Below.refl _ _).alloc (Nat.le_refl _) _⟩
        | true =>
          go_enter Try.func50, Try.ntmps50
          go_wp2_with (first | (go_at_call 41; (with_reducible refine (within_is _ _ _ _ h1 _).mono ?_); rintro e w' ⟨rfl, rfl⟩) | (go_at_call 41; (with_reducible refine (within_is _ _ _ _ h2 _).mono ?_); rintro e w' ⟨rfl, rfl⟩) | (go_at_call 41; (with_reducible refine (within_is _ _ _ _ h3 _).mono ?_); rintro e w' ⟨rfl, rfl⟩) | (go_at_call 41; (with_reducible refine (within_is _ _ _ _ h4 _).mono ?_); rintro e w' ⟨rfl, rfl⟩) | go_in)
          go_ret
          exact ⟨by rw [E.out, h1, h2, h3, h4]; rfl, (Below.refl _ _).alloc (Nat.le_refl _) _⟩
theorem below_box1 {W w1 : World} {o : Obj} (hb : Below (W.alloc o).heap.size (W.alloc o) w1) : Below W.heap.size W w1 := below_call hb
theorem below_box2 {W w1 : World} {o o' : Obj} (hb : Below ((W.alloc o).alloc o').heap.size ((W.alloc o).alloc o') w1) : Below W.heap.size W w1 := below_call (below_call hb)
set_option maxHeartbeats 1000000 in
theorem order_pred (l : List S55) (w : World) (hl : ∀ x ∈ l, okOrder x = true) : PredOrder 49 #[] orderBad l w := by
  intro W x hx hb
  obtain ⟨a0, a1, b0, b1, n0, n1, p0, p1, d0, d1⟩ := okOrder_iff.1 (hl x hx)
  clear hl hx hb
  obtain ⟨a, b, n, p, d⟩ := x
  simp only at a0 a1 b0 b1 n0 n1 p0 p1 d0 d1 ⊢
  simp only [List.append_toArray, List.cons_append, List.nil_append, List.append_nil]
  have E : Aside0 (orderBad ⟨a, b, n, p, d⟩ = (!retB a b n d || !inB p 0 10000)) := ⟨rfl⟩
  go_enter Try.func49, Try.ntmps49
  go_wp2_with fail
  cases h1 : retB a b n d with
  | false =>
    refine (isReturn_is a b n d false h1 _ a0 a1 b0 b1 n0 n1 d0 d1).mono ?_
    rintro e w1 ⟨rfl, hb⟩
    have H1 := Aside0.mk h1
    clear h1
    go_wp2
    go_ret
    exact ⟨by rw [E.out, H1.out]; rfl, below_box1 hb⟩
  | true =>
    refine (isReturn_is a b n d true h1 _ a0 a1 b0 b1 n0 n1 d0 d1).mono ?_
    rintro e w1 ⟨rfl, hb⟩
    have H1 := Aside0.mk h1
    have HB := Aside0.mk (below_box1 hb)
    obtain ⟨hc, hf⟩ := bcell hb
    clear h1
    go_wp2_with fail
    cases h2 : inB p 0 10000 with
    | false =>
      refine (within_is _ _ _ _ h2 _).mono ?_
      rintro e w' ⟨rfl, rfl⟩
      have H2 := Aside0.mk h2
      clear h2
      go_wp2
      go_ret
      exact ⟨by rw [E.out, H1.out, H2.out]; rfl, HB.out⟩
    | true =>
      refine (within_is _ _ _ _ h2 _).mono ?_
      rintro e w' ⟨rfl, rfl⟩
      have H2 := Aside0.mk h2
      clear h2
      go_wp2
      go_ret
      exact ⟨by rw [E.out, H1.out, H2.out]; rfl, HB.out⟩
set_option maxHeartbeats 1000000 in
theorem return_pred (l : List S50) (w : World) (hl : ∀ x ∈ l, okReturn x = true) : PredReturn 52 #[] returnBad l w := by
  intro W x hx hb
  obtain ⟨a0, a1, b0, b1, n0, n1, d0, d1⟩ := okReturn_iff.1 (hl x hx)
  clear hl hx hb
  obtain ⟨a, b, n, d⟩ := x
  simp only at a0 a1 b0 b1 n0 n1 d0 d1 ⊢
  simp only [List.append_toArray, List.cons_append, List.nil_append, List.append_nil]
  have E : Aside0 (returnBad ⟨a, b, n, d⟩ = !retB a b n d) := ⟨rfl⟩
  go_enter Try.func52, Try.ntmps52
  go_wp2_with fail
  refine (isReturn_is a b n d _ rfl _ a0 a1 b0 b1 n0 n1 d0 d1).mono ?_
  rintro e w1 ⟨rfl, hb⟩
  generalize retB a b n d = r at *
  go_wp2
  go_ret
  exact ⟨by rw [E.out]; rfl, below_box1 hb⟩
theorem ValidOrders_any (A : Option Addr) (c : Nat) (l : List S55) (w : World) (hr : Kd.C k55 w A l.length l) (hc : l.length ≤ c) (hl : ∀ x ∈ l, okOrder x = true) :
    Calls Try.prog 38 #[.slice A l.length c] w fun e w' => e = .returned (.bool (ordersB l)) ∧ Below w.heap.size w w' := by
  have HR := Aside0.mk hr
  have HL := Aside0.mk hl
  have E : Aside0 (ordersB l = (decide ((l.length : Int) ≤ 40) && !l.any orderBad)) := ⟨rfl⟩
  clear hr hl
  cases h1 : decide ((l.length : Int) ≤ 40) with
  | false =>
    go_enter Try.func38, Try.ntmps38
    go_wp2
    go_ret
    exact ⟨by rw [E.out, h1]; rfl, Below.refl _ _⟩
  | true =>
    have eg := enters_of Try.func49 (by kernel_rfl) rfl
    go_enter Try.func38, Try.ntmps38
    go_wp2_with fail
    refine (containsFunc_Order 49 _ eg orderBad A c l _ HR.out hc (order_pred l _ HL.out)).mono ?_
    rintro e w1 ⟨rfl, hb⟩
    have HB := Aside0.mk hb
    clear hb
    generalize hy : l.any orderBad = y at *
    go_wp2
    go_ret
    exact ⟨by rw [E.out, h1]; rfl, HB.out⟩
theorem ValidReturns_any (A : Option Addr) (c : Nat) (l : List S50) (w : World) (hr : Kd.C k50 w A l.length l) (hc : l.length ≤ c) (hl : ∀ x ∈ l, okReturn x = true) :
    Calls Try.prog 39 #[.slice A l.length c] w fun e w' => e = .returned (.bool (returnsB l)) ∧ Below w.heap.size w w' := by
  have HR := Aside0.mk hr
  have HL := Aside0.mk hl
  have E : Aside0 (returnsB l = (decide ((l.length : Int) ≤ 40) && !l.any returnBad)) := ⟨rfl⟩
  clear hr hl
  cases h1 : decide ((l.length : Int) ≤ 40) with
  | false =>
    go_enter Try.func39, Try.ntmps39
    go_wp2
    go_ret
    exact ⟨by rw [E.out, h1]; rfl, Below.refl _ _⟩
  | true =>
    have eg := enters_of Try.func52 (by kernel_rfl) rfl
    go_enter Try.func39, Try.ntmps39
    go_wp2_with fail
    refine (containsFunc_Return 52 _ eg returnBad A c l _ HR.out hc (return_pred l _ HL.out)).mono ?_
    rintro e w1 ⟨rfl, hb⟩
    have HB := Aside0.mk hb
    clear hb
    generalize hy : l.any returnBad = y at *
    go_wp2
    go_ret
    exact ⟨by rw [E.out, h1]; rfl, HB.out⟩
def impl_ValidOrders.f (l0 : List (S55)) : Option (Bool) := if l0.all okOrder = true then some (ordersB l0) else none
theorem impl_ValidOrders.calls (A0 : Option Addr) (c0 : Nat) (l0 : List (S55)) (r : Bool) (w : World) (hr0 : Kd.C k55 w A0 l0.length l0) (hc0 : l0.length ≤ c0) (h : impl_ValidOrders.f l0 = some r) :
    Calls Try.prog 38 #[.slice A0 l0.length c0] w fun e w' => e = .returned (.bool r) ∧ Below w.heap.size w w' := by
  unfold impl_ValidOrders.f at h
  split at h
  · rename_i hh
    injection h with h
    subst h
    exact ValidOrders_any A0 c0 l0 w hr0 hc0 (List.all_eq_true.1 hh)
  · cases h
def impl_ValidReturns.f (l0 : List (S50)) : Option (Bool) := if l0.all okReturn = true then some (returnsB l0) else none
theorem impl_ValidReturns.calls (A0 : Option Addr) (c0 : Nat) (l0 : List (S50)) (r : Bool) (w : World) (hr0 : Kd.C k50 w A0 l0.length l0) (hc0 : l0.length ≤ c0) (h : impl_ValidReturns.f l0 = some r) :
    Calls Try.prog 39 #[.slice A0 l0.length c0] w fun e w' => e = .returned (.bool r) ∧ Below w.heap.size w w' := by
  unfold impl_ValidReturns.f at h
  split at h
  · rename_i hh
    injection h with h
    subst h
    exact ValidReturns_any A0 c0 l0 w hr0 hc0 (List.all_eq_true.1 hh)
  · cases h
end Go.Proofs.Ytlefddghiiigeaa.Q
